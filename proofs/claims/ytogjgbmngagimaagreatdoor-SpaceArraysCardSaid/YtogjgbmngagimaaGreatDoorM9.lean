/- Texts of this proof, joined. -/
import Derived.Test.YtogjgbmngagimaaGreatDoorM8
import Derived.Shelf.Strings.Builder1
import Derived.Shelf.Strings.Builder2
import Derived.Shelf.Strings.OnBuilder
import Derived.Shelf.Strings.Trim
import Derived.Shelf.Small.Utf8
import Derived.Shelf.Small.Bits
import Derived.Shelf.Small.Strs
import Derived.Shelf.Small.Wraps
import Derived.Shelf.Strings.BuilderF
import Derived.Shelf.Strings.BuilderRune
import Derived.Shelf.Utf8.AppendRune
import Derived.Shelf.Utf8.AppendRunePlain
import Derived.Shelf.Strconv.Atoi
import Derived.Shelf.Strconv.Itoa0
import Derived.Shelf.Strconv.Itoa1
import Derived.Shelf.LaysM
import Derived.Shelf.Strconv.Itoa2
import Derived.Shelf.Strconv.Itoa3
import Derived.Shelf.Strconv.AtoiErrFast
import Derived.Shelf.Strconv.ParseIntEmpty
import Derived.Shelf.Strconv.AtoiFail
import Derived.Shelf.Strconv.Clone
import Derived.Shelf.Strconv.SyntaxError
import Derived.Shelf.LaysC
import Derived.Shelf.Strconv.ToError
import Derived.Shelf.Strconv.Lower
import Derived.Shelf.Strconv.ParseUint10
import Derived.Shelf.Strconv.ParseUint10Empty
import Derived.Shelf.Strconv.ParseUint10Any
import Derived.Shelf.Strconv.ParseInt10
import Derived.Shelf.Strconv.AtoiLong
import Derived.Shelf.Strconv.AtoiInnerAll
import Derived.Shelf.Strconv.RangeError
import Derived.Shelf.Strconv.ToErrorRange
import Derived.Shelf.Strconv.AtoiAll
import Derived.Shelf.Strings.Search1
import Derived.Shelf.Strings.Search2
import Derived.Shelf.Strings.Search3
import Derived.Shelf.Strings.Cut
import Derived.Shelf.Strings.Shaped
import Derived.Shelf.Strings.Prefix
import Derived.Shelf.Strings.Runes
import Derived.Shelf.Strings.AsciiSet
import Derived.Shelf.Bits.Mul64
import Derived.Shelf.Strings.Repeat
import Derived.Shelf.Unicode.DecodeSlow
import Derived.Lib.Walk
import Derived.BigCall
import Derived.BigGuard
import Derived.Deep.RegionWith
set_option linter.all false
set_option maxHeartbeats 8000000
set_option maxRecDepth 100000
namespace Go.Proofs
open Go.Shelf
def Tryz.lays169_ren:Go.Shelf.Ren:=⟨λ | 169=>30 |n=>n,λ | 70=>52 | 9=>9 | 0=>0 | 72=>55 | 37=>53 | 127=>103 | 3=>3 | 5=>5 |n=>n,λ |n=>n⟩
theorem Tryz.lays169:Go.Proofs.Lays.n169 Tryz.prog Tryz.lays169_ren:={
 mixed:=by kernel_rfl
 f169:=Tryz.func30.trans (congrArg some (by kernel_rfl))
 t0:=Tryz.underlying0
 a0:=Tryz.isAgg0
 z0:=Tryz.sizeOf0
 v0:=Tryz.zeroValue0
 t3:=Tryz.underlying3
 a3:=Tryz.isAgg3
 z3:=Tryz.sizeOf3
 v3:=Tryz.zeroValue3
 t9:=Tryz.underlying9
 a9:=Tryz.isAgg9
 z9:=Tryz.sizeOf9
 v9:=Tryz.zeroValue9
 t37:=Tryz.underlying53
 a37:=Tryz.isAgg53
 z37:=Tryz.sizeOf53
 v37:=Tryz.zeroValue53
 t70:=Tryz.underlying52
 a70:=Tryz.isAgg52
 z70:=Tryz.sizeOf52
 v70:=Tryz.zeroValue52
 t72:=Tryz.underlying55
 a72:=Tryz.isAgg55
 z72:=Tryz.sizeOf55
 v72:=Tryz.zeroValue55
 t127:=Tryz.underlying103
 a127:=Tryz.isAgg103
 z127:=Tryz.sizeOf103
 v127:=Tryz.zeroValue103}
theorem Tryz.Builder_Extra_169:Builder.Extra Tryz.prog Tryz.lays169_ren:={
 sizeBuilder:=by kernel_rfl
 liesBuilder:=by kernel_rfl
 t5:=Tryz.underlying5
 a5:=Tryz.isAgg5
 z5:=Tryz.sizeOf5
 v5:=Tryz.zeroValue5
 infoByte:=by kernel_rfl
 cellsByte:=by kernel_rfl
 sizeByte:=by kernel_rfl
 neB5:=by decide}
open Go.RowKit in
theorem Tryz.Builder_String_any (B b:Nat)(l:List UInt8)(w:World)(h:Lib.IsBuilder 55 5 B b (Lib.byteCells l) w)(hBw:B<=w.heap.size):
 Calls Tryz.prog 30 #[.pointer (some ⟨b,0,none⟩)] w λe w'=>e= .returned (.string ⟨l.toArray⟩)/\Below B w w':=Any.Builder_String_any Tryz.lays169 Tryz.Builder_Extra_169 B b l w h hBw
def Tryz.lays156_ren:Go.Shelf.Ren:=⟨λ | 156=>64 | 165=>104 | 166=>26 | 169=>30 | 240=>62 | 241=>153 | 276=>102 | 277=>212 |n=>n,λ | 31=>73 | 9=>9 | 3=>3 | 4=>4 | 0=>0 | 20=>20 | 72=>55 | 76=>58 | 70=>52 | 37=>53 | 75=>57 | 127=>103 | 164=>163 | 5=>5 | 80=>63 |n=>n,λ |n=>n⟩
theorem Tryz.lays156:Go.Proofs.Lays.n156 Tryz.prog Tryz.lays156_ren:={
 mixed:=by kernel_rfl
 f156:=Tryz.func64.trans (congrArg some (by kernel_rfl))
 f165:=Tryz.func104.trans (congrArg some (by kernel_rfl))
 f166:=Tryz.func26.trans (congrArg some (by kernel_rfl))
 f169:=Tryz.func30.trans (congrArg some (by kernel_rfl))
 f240:=Tryz.func62.trans (congrArg some (by kernel_rfl))
 f241:=Tryz.func153.trans (congrArg some (by kernel_rfl))
 f276:=Tryz.func102.trans (congrArg some (by kernel_rfl))
 f277:=Tryz.func212.trans (congrArg some (by kernel_rfl))
 t0:=Tryz.underlying0
 a0:=Tryz.isAgg0
 z0:=Tryz.sizeOf0
 v0:=Tryz.zeroValue0
 t3:=Tryz.underlying3
 a3:=Tryz.isAgg3
 z3:=Tryz.sizeOf3
 v3:=Tryz.zeroValue3
 t4:=Tryz.underlying4
 a4:=Tryz.isAgg4
 z4:=Tryz.sizeOf4
 v4:=Tryz.zeroValue4
 t9:=Tryz.underlying9
 a9:=Tryz.isAgg9
 z9:=Tryz.sizeOf9
 v9:=Tryz.zeroValue9
 t20:=Tryz.underlying20
 a20:=Tryz.isAgg20
 z20:=Tryz.sizeOf20
 v20:=Tryz.zeroValue20
 t31:=Tryz.underlying73
 a31:=Tryz.isAgg73
 z31:=Tryz.sizeOf73
 v31:=Tryz.zeroValue73
 t37:=Tryz.underlying53
 a37:=Tryz.isAgg53
 z37:=Tryz.sizeOf53
 v37:=Tryz.zeroValue53
 t70:=Tryz.underlying52
 a70:=Tryz.isAgg52
 z70:=Tryz.sizeOf52
 v70:=Tryz.zeroValue52
 t72:=Tryz.underlying55
 a72:=Tryz.isAgg55
 z72:=Tryz.sizeOf55
 v72:=Tryz.zeroValue55
 t75:=Tryz.underlying57
 a75:=Tryz.isAgg57
 z75:=Tryz.sizeOf57
 v75:=Tryz.zeroValue57
 t76:=Tryz.underlying58
 a76:=Tryz.isAgg58
 z76:=Tryz.sizeOf58
 v76:=Tryz.zeroValue58
 t127:=Tryz.underlying103
 a127:=Tryz.isAgg103
 z127:=Tryz.sizeOf103
 v127:=Tryz.zeroValue103
 t164:=Tryz.underlying163
 a164:=Tryz.isAgg163
 z164:=Tryz.sizeOf163
 v164:=Tryz.zeroValue163}
theorem Tryz.Builder_Extra_156:Builder.Extra Tryz.prog Tryz.lays156_ren:={
 sizeBuilder:=by kernel_rfl
 liesBuilder:=by kernel_rfl
 t5:=Tryz.underlying5
 a5:=Tryz.isAgg5
 z5:=Tryz.sizeOf5
 v5:=Tryz.zeroValue5
 infoByte:=by kernel_rfl
 cellsByte:=by kernel_rfl
 sizeByte:=by kernel_rfl
 neB5:=by decide}
open Go.RowKit in
theorem Tryz.strings_Join_none (a:Option Addr)(c:Nat)(sep:ByteArray)(w:World):
 Calls Tryz.prog 64 #[.slice a 0 c,.string sep] w λe w'=>e= .returned (.string ⟨#[]⟩)/\w'=w:=Any.strings_Join_none Tryz.lays156 Tryz.Builder_Extra_156 a c sep w
open Go.RowKit in
theorem Tryz.strings_Join (bk o c:Nat)(xs:List ByteArray)(sep:ByteArray)(w:World)(hcells:∀(j:Nat) x,xs[j]? =some x->w.cell? ⟨bk,o+j,none⟩=some (.string x))(hbk:bk<w.heap.size)(hN:xs.length<=140737488355328)(hcap:xs.length<=c)(hlen:(Lib.join (xs.map (·.data.toList)) sep.data.toList).length<=140737488355328):
 Calls Tryz.prog 64 #[.slice (some ⟨bk,o,none⟩) xs.length c,.string sep] w λe w'=>e= .returned (.string ⟨(Lib.join (xs.map (·.data.toList)) sep.data.toList).toArray⟩)/\Below w.heap.size w w':=Any.strings_Join Tryz.lays156 Tryz.Builder_Extra_156 bk o c xs sep w hcells hbk hN hcap hlen
def Tryz.lays161_ren:Go.Shelf.Ren:=⟨λ | 161=>227 | 231=>285 | 227=>286 | 233=>287 | 235=>288 | 228=>325 | 197=>172 | 151=>326 | 260=>222 | 152=>342 | 137=>345 | 119=>346 | 224=>276 | 225=>275 | 217=>274 | 266=>316 |n=>n,λ | 9=>9 | 4=>4 | 3=>3 | 5=>5 | 117=>313 | 116=>312 | 0=>0 | 124=>316 | 105=>226 | 21=>21 | 119=>299 | 46=>216 | 139=>302 | 138=>301 |n=>n,λ | 3=>5 | 4=>6 |n=>n⟩
theorem Tryz.lays161:Go.Proofs.Lays.n161 Tryz.prog Tryz.lays161_ren:={
 mixed:=by kernel_rfl
 f119:=Tryz.func346.trans (congrArg some (by kernel_rfl))
 f137:=Tryz.func345.trans (congrArg some (by kernel_rfl))
 f151:=Tryz.func326.trans (congrArg some (by kernel_rfl))
 f152:=Tryz.func342.trans (congrArg some (by kernel_rfl))
 f161:=Tryz.func227.trans (congrArg some (by kernel_rfl))
 f197:=Tryz.func172.trans (congrArg some (by kernel_rfl))
 f217:=Tryz.func274.trans (congrArg some (by kernel_rfl))
 f224:=Tryz.func276.trans (congrArg some (by kernel_rfl))
 f225:=Tryz.func275.trans (congrArg some (by kernel_rfl))
 f227:=Tryz.func286.trans (congrArg some (by kernel_rfl))
 f228:=Tryz.func325.trans (congrArg some (by kernel_rfl))
 f231:=Tryz.func285.trans (congrArg some (by kernel_rfl))
 f233:=Tryz.func287.trans (congrArg some (by kernel_rfl))
 f235:=Tryz.func288.trans (congrArg some (by kernel_rfl))
 f260:=Tryz.func222.trans (congrArg some (by kernel_rfl))
 f266:=Tryz.func316.trans (congrArg some (by kernel_rfl))
 t0:=Tryz.underlying0
 a0:=Tryz.isAgg0
 z0:=Tryz.sizeOf0
 v0:=Tryz.zeroValue0
 t3:=Tryz.underlying3
 a3:=Tryz.isAgg3
 z3:=Tryz.sizeOf3
 v3:=Tryz.zeroValue3
 t4:=Tryz.underlying4
 a4:=Tryz.isAgg4
 z4:=Tryz.sizeOf4
 v4:=Tryz.zeroValue4
 t5:=Tryz.underlying5
 a5:=Tryz.isAgg5
 z5:=Tryz.sizeOf5
 v5:=Tryz.zeroValue5
 t9:=Tryz.underlying9
 a9:=Tryz.isAgg9
 z9:=Tryz.sizeOf9
 v9:=Tryz.zeroValue9
 t21:=Tryz.underlying21
 a21:=Tryz.isAgg21
 z21:=Tryz.sizeOf21
 v21:=Tryz.zeroValue21
 t46:=Tryz.underlying216
 a46:=Tryz.isAgg216
 z46:=Tryz.sizeOf216
 v46:=Tryz.zeroValue216
 t105:=Tryz.underlying226
 a105:=Tryz.isAgg226
 z105:=Tryz.sizeOf226
 v105:=Tryz.zeroValue226
 t116:=Tryz.underlying312
 a116:=Tryz.isAgg312
 z116:=Tryz.sizeOf312
 t117:=Tryz.underlying313
 a117:=Tryz.isAgg313
 z117:=Tryz.sizeOf313
 v117:=Tryz.zeroValue313
 t119:=Tryz.underlying299
 a119:=Tryz.isAgg299
 z119:=Tryz.sizeOf299
 t124:=Tryz.underlying316
 a124:=Tryz.isAgg316
 z124:=Tryz.sizeOf316
 v124:=Tryz.zeroValue316
 t138:=Tryz.underlying301
 a138:=Tryz.isAgg301
 z138:=Tryz.sizeOf301
 v138:=Tryz.zeroValue301
 t139:=Tryz.underlying302
 a139:=Tryz.isAgg302
 z139:=Tryz.sizeOf302
 v139:=Tryz.zeroValue302
 g3:=by kernel_rfl
 g4:=by kernel_rfl}
open Go.RowKit in
theorem Tryz.strings_TrimLeft_one (s:ByteArray)(c:UInt8)(hc:c.toNat<128)(w:World):
 Calls Tryz.prog 227 #[.string s,.string ⟨#[c]⟩] w λe w'=>e= .returned (.string ⟨(Lib.trimLeftB s.data.toList c).toArray⟩)/\w'=w:=Any.strings_TrimLeft_one Tryz.lays161 s c hc w
def Tryz.lays133_ren:Go.Shelf.Ren:=⟨λ | 133=>319 | 128=>301 |n=>n,λ | 51=>186 | 3=>3 | 4=>4 | 46=>216 | 5=>5 | 9=>9 |n=>n,λ |n=>n⟩
theorem Tryz.lays133:Go.Proofs.Lays.n133 Tryz.prog Tryz.lays133_ren:={
 mixed:=by kernel_rfl
 f128:=Tryz.func301.trans (congrArg some (by kernel_rfl))
 f133:=Tryz.func319.trans (congrArg some (by kernel_rfl))
 t3:=Tryz.underlying3
 a3:=Tryz.isAgg3
 z3:=Tryz.sizeOf3
 v3:=Tryz.zeroValue3
 t4:=Tryz.underlying4
 a4:=Tryz.isAgg4
 z4:=Tryz.sizeOf4
 v4:=Tryz.zeroValue4
 t5:=Tryz.underlying5
 a5:=Tryz.isAgg5
 z5:=Tryz.sizeOf5
 v5:=Tryz.zeroValue5
 t9:=Tryz.underlying9
 a9:=Tryz.isAgg9
 z9:=Tryz.sizeOf9
 v9:=Tryz.zeroValue9
 t46:=Tryz.underlying216
 a46:=Tryz.isAgg216
 z46:=Tryz.sizeOf216
 v46:=Tryz.zeroValue216
 t51:=Tryz.underlying186
 a51:=Tryz.isAgg186
 z51:=Tryz.sizeOf186
 v51:=Tryz.zeroValue186}
theorem Tryz.bits_LeadingZeros32 (x:Int)(w:World)(h0:0<=x)(h1:x<=4294967295):
 Calls Tryz.prog 319 #[.int .u32 x] w λe w'=>e= .returned (.int .i64 (32-(Lib.bitLen x.toNat:Int)))/\w'=w:=Any.bits_LeadingZeros32 Tryz.lays133 x w h0 h1
def Tryz.lays103_ren:Go.Shelf.Ren:=⟨λ | 103=>109 | 210=>156 | 206=>201 |n=>n,λ | 9=>9 | 4=>4 | 24=>123 | 3=>3 |n=>n,λ |n=>n⟩
theorem Tryz.lays103:Go.Proofs.Lays.n103 Tryz.prog Tryz.lays103_ren:={
 mixed:=by kernel_rfl
 f103:=Tryz.func109.trans (congrArg some (by kernel_rfl))
 f206:=Tryz.func201.trans (congrArg some (by kernel_rfl))
 f210:=Tryz.func156.trans (congrArg some (by kernel_rfl))
 t3:=Tryz.underlying3
 a3:=Tryz.isAgg3
 z3:=Tryz.sizeOf3
 v3:=Tryz.zeroValue3
 t4:=Tryz.underlying4
 a4:=Tryz.isAgg4
 z4:=Tryz.sizeOf4
 v4:=Tryz.zeroValue4
 t9:=Tryz.underlying9
 a9:=Tryz.isAgg9
 z9:=Tryz.sizeOf9
 v9:=Tryz.zeroValue9
 t24:=Tryz.underlying123
 a24:=Tryz.isAgg123
 z24:=Tryz.sizeOf123
 v24:=Tryz.zeroValue123}
open Go.RowKit in
theorem Tryz.strings_CutPrefix (s p:ByteArray)(w:World):
 Calls Tryz.prog 109 #[.string s,.string p] w λe w'=>e= .returned (.tuple #[.string ⟨(Lib.trimPrefix s.data.toList p.data.toList).toArray⟩,.bool (Lib.hasPrefix s.data.toList p.data.toList)])/\w'=w:=Any.strings_CutPrefix Tryz.lays103 s p w
def Tryz.lays104_ren:Go.Shelf.Ren:=⟨λ | 104=>110 | 211=>157 | 207=>214 |n=>n,λ | 9=>9 | 4=>4 | 24=>123 | 3=>3 |n=>n,λ |n=>n⟩
theorem Tryz.lays104:Go.Proofs.Lays.n104 Tryz.prog Tryz.lays104_ren:={
 mixed:=by kernel_rfl
 f104:=Tryz.func110.trans (congrArg some (by kernel_rfl))
 f207:=Tryz.func214.trans (congrArg some (by kernel_rfl))
 f211:=Tryz.func157.trans (congrArg some (by kernel_rfl))
 t3:=Tryz.underlying3
 a3:=Tryz.isAgg3
 z3:=Tryz.sizeOf3
 v3:=Tryz.zeroValue3
 t4:=Tryz.underlying4
 a4:=Tryz.isAgg4
 z4:=Tryz.sizeOf4
 v4:=Tryz.zeroValue4
 t9:=Tryz.underlying9
 a9:=Tryz.isAgg9
 z9:=Tryz.sizeOf9
 v9:=Tryz.zeroValue9
 t24:=Tryz.underlying123
 a24:=Tryz.isAgg123
 z24:=Tryz.sizeOf123
 v24:=Tryz.zeroValue123}
open Go.RowKit in
theorem Tryz.strings_CutSuffix (s p:ByteArray)(w:World)(hs:s.size<=9223372036854775807):
 Calls Tryz.prog 110 #[.string s,.string p] w λe w'=>e= .returned (.tuple #[.string ⟨(Lib.trimSuffix s.data.toList p.data.toList).toArray⟩,.bool (Lib.hasSuffix s.data.toList p.data.toList)])/\w'=w:=Any.strings_CutSuffix Tryz.lays104 s p w hs
open Go.RowKit in
theorem Tryz.Builder_String_any_k (B b:Nat)(l:List UInt8)(w:World)(h:Lib.IsBuilderF 55 5 B b (Lib.byteCells l) w)(hBw:B<=w.heap.size):
 Calls Tryz.prog 30 #[.pointer (some ⟨b,0,none⟩)] w λe w'=>e= .returned (.string ⟨l.toArray⟩)/\(Lib.IsBuilderF 55 5 B b (Lib.byteCells l) w'/\Below B w w'/\Lib.OthersKept 5 (some b) w w'):=Any.Builder_String_any_k Tryz.lays169 Tryz.Builder_Extra_169 B b l w h hBw
def Tryz.lays129_ren:Go.Shelf.Ren:=⟨λ | 129=>270 |n=>n,λ | 53=>22 | 3=>3 | 4=>4 | 46=>216 | 5=>5 | 9=>9 |n=>n,λ |n=>n⟩
theorem Tryz.lays129:Go.Proofs.Lays.n129 Tryz.prog Tryz.lays129_ren:={
 mixed:=by kernel_rfl
 f129:=Tryz.func270.trans (congrArg some (by kernel_rfl))
 t3:=Tryz.underlying3
 a3:=Tryz.isAgg3
 z3:=Tryz.sizeOf3
 v3:=Tryz.zeroValue3
 t4:=Tryz.underlying4
 a4:=Tryz.isAgg4
 z4:=Tryz.sizeOf4
 v4:=Tryz.zeroValue4
 t5:=Tryz.underlying5
 a5:=Tryz.isAgg5
 z5:=Tryz.sizeOf5
 v5:=Tryz.zeroValue5
 t9:=Tryz.underlying9
 a9:=Tryz.isAgg9
 z9:=Tryz.sizeOf9
 v9:=Tryz.zeroValue9
 t46:=Tryz.underlying216
 a46:=Tryz.isAgg216
 z46:=Tryz.sizeOf216
 v46:=Tryz.zeroValue216
 t53:=Tryz.underlying22
 a53:=Tryz.isAgg22
 z53:=Tryz.sizeOf22
 v53:=Tryz.zeroValue22}
theorem Tryz.bits_Len64 (x:Int)(w:World)(h0:0<=x)(h1:x<=18446744073709551615):
 Calls Tryz.prog 270 #[.int .u64 x] w λe w'=>e= .returned (.int .i64 (Lib.bitLen x.toNat))/\w'=w:=Any.bits_Len64 Tryz.lays129 x w h0 h1
def Tryz.lays283_ren:Go.Shelf.Ren:=⟨λ | 283=>208 |n=>n,λ | 3=>3 | 9=>9 | 4=>4 |n=>n,λ |n=>n⟩
theorem Tryz.lays283:Go.Proofs.Lays.n283 Tryz.prog Tryz.lays283_ren:={
 mixed:=by kernel_rfl
 f283:=Tryz.func208.trans (congrArg some (by kernel_rfl))
 t3:=Tryz.underlying3
 a3:=Tryz.isAgg3
 z3:=Tryz.sizeOf3
 v3:=Tryz.zeroValue3
 t4:=Tryz.underlying4
 a4:=Tryz.isAgg4
 z4:=Tryz.sizeOf4
 v4:=Tryz.zeroValue4
 t9:=Tryz.underlying9
 a9:=Tryz.isAgg9
 z9:=Tryz.sizeOf9
 v9:=Tryz.zeroValue9}
open Go.Lib in
theorem Tryz.internal_strconv_small (i:Nat)(h:i<100)(w:World):
 Calls Tryz.prog 208 #[.int .i64 i] w λe w'=>e= .returned (.string ⟨(Lib.decDigits i).toArray⟩)/\w'=w:=Any.internal_strconv_small Tryz.lays283 i h w
def Tryz.laysM284_ren:Go.Shelf.Ren:=⟨λ | 284=>209 | 129=>270 | 317=>269 | 318=>271 |n=>n,λ | 53=>22 | 3=>3 | 212=>291 | 0=>0 | 4=>4 | 46=>216 | 5=>5 | 9=>9 |n=>n,λ | 17=>3 |n=>n⟩
theorem Tryz.laysM284:Go.Proofs.LaysM.n284 Tryz.prog Tryz.laysM284_ren:={
 mixed:=by kernel_rfl
 f129:=Tryz.func270.trans (congrArg some (by kernel_rfl))
 f284:=Tryz.func209.trans (congrArg some (by kernel_rfl))
 f317:=Tryz.func269.trans (congrArg some (by kernel_rfl))
 f318:=Tryz.func271.trans (congrArg some (by kernel_rfl))
 t0:=Tryz.underlying0
 a0:=Tryz.isAgg0
 z0:=Tryz.sizeOf0
 v0:=Tryz.zeroValue0
 t3:=Tryz.underlying3
 a3:=Tryz.isAgg3
 z3:=Tryz.sizeOf3
 v3:=Tryz.zeroValue3
 t4:=Tryz.underlying4
 a4:=Tryz.isAgg4
 z4:=Tryz.sizeOf4
 v4:=Tryz.zeroValue4
 t5:=Tryz.underlying5
 a5:=Tryz.isAgg5
 z5:=Tryz.sizeOf5
 v5:=Tryz.zeroValue5
 t9:=Tryz.underlying9
 a9:=Tryz.isAgg9
 z9:=Tryz.sizeOf9
 v9:=Tryz.zeroValue9
 t46:=Tryz.underlying216
 a46:=Tryz.isAgg216
 z46:=Tryz.sizeOf216
 v46:=Tryz.zeroValue216
 t53:=Tryz.underlying22
 a53:=Tryz.isAgg22
 z53:=Tryz.sizeOf22
 v53:=Tryz.zeroValue22
 t212:=Tryz.underlying291
 a212:=Tryz.isAgg291
 z212:=Tryz.sizeOf291
 v212:=Tryz.zeroValue291
 g17:=by kernel_rfl
 i0:=by kernel_rfl
 i3:=by kernel_rfl
 i4:=by kernel_rfl
 i5:=by kernel_rfl
 i9:=by kernel_rfl
 i46:=by kernel_rfl
 i53:=by kernel_rfl
 i212:=by kernel_rfl
 m17:=by kernel_rfl}
open Go.Lib in
theorem Tryz.internal_strconv_numDigits (u:Nat)(h1:1≤u)(h2:u<18446744073709551616)(w:World)(htab:Lib.TabIs Tryz.prog w "internal/strconv.uint64pow10" .u64 Lib.pow10Tab):
 Calls Tryz.prog 209 #[.int .u64 u] w λe w'=>e= .returned (.int .i64 (Lib.nDigits u))/\w'=w:=Any.internal_strconv_numDigits Tryz.laysM284 u h1 h2 w htab
def Tryz.lays285_ren:Go.Shelf.Ren:=⟨λ | 285=>210 |n=>n,λ | 37=>53 | 53=>22 | 3=>3 | 4=>4 | 51=>186 | 9=>9 | 5=>5 | 0=>0 |n=>n,λ |n=>n⟩
theorem Tryz.lays285:Go.Proofs.Lays.n285 Tryz.prog Tryz.lays285_ren:={
 mixed:=by kernel_rfl
 f285:=Tryz.func210.trans (congrArg some (by kernel_rfl))
 t0:=Tryz.underlying0
 a0:=Tryz.isAgg0
 z0:=Tryz.sizeOf0
 v0:=Tryz.zeroValue0
 t3:=Tryz.underlying3
 a3:=Tryz.isAgg3
 z3:=Tryz.sizeOf3
 v3:=Tryz.zeroValue3
 t4:=Tryz.underlying4
 a4:=Tryz.isAgg4
 z4:=Tryz.sizeOf4
 v4:=Tryz.zeroValue4
 t5:=Tryz.underlying5
 a5:=Tryz.isAgg5
 z5:=Tryz.sizeOf5
 v5:=Tryz.zeroValue5
 t9:=Tryz.underlying9
 a9:=Tryz.isAgg9
 z9:=Tryz.sizeOf9
 v9:=Tryz.zeroValue9
 t37:=Tryz.underlying53
 a37:=Tryz.isAgg53
 z37:=Tryz.sizeOf53
 v37:=Tryz.zeroValue53
 t51:=Tryz.underlying186
 a51:=Tryz.isAgg186
 z51:=Tryz.sizeOf186
 v51:=Tryz.zeroValue186
 t53:=Tryz.underlying22
 a53:=Tryz.isAgg22
 z53:=Tryz.sizeOf22
 v53:=Tryz.zeroValue22}
open Go.RowKit Go.Sort Go.Lib in
theorem Tryz.internal_strconv_formatBase10 (blk off cap:Nat)(u:Nat)(d:Array UInt8)(w:World)(hH:Holds (λ(b:UInt8)=>Value.int .u8 (b.toNat:Int)) w blk off d)(hu:u<10^d.size)(hu64:u<18446744073709551616)(hsz:d.size<4611686018427387904):
 Calls Tryz.prog 210 #[.slice (some ⟨blk,off,none⟩) d.size cap,.int .u64 u] w λe w'=>
  e= .returned (.tuple #[])/\∃(n v':Nat) (dk:Array UInt8),w'=(putRow (λ(b:UInt8)=>Value.int .u8 (b.toNat:Int)) w blk off dk).drewN n/\FmtInv d.size u 0 v' dk:=Any.internal_strconv_formatBase10 Tryz.lays285 blk off cap u d w hH hu hu64 hsz
def Tryz.laysM171_ren:Go.Shelf.Ren:=⟨λ | 171=>63 | 243=>103 | 246=>152 | 283=>208 | 284=>209 | 285=>210 | 286=>211 | 129=>270 | 317=>269 | 318=>271 | 319=>272 | 320=>273 | 337=>315 | 338=>106 |n=>n,λ | 3=>3 | 9=>9 | 2=>2 | 4=>4 | 171=>255 | 0=>0 | 53=>22 | 37=>53 | 5=>5 | 173=>257 | 212=>291 | 51=>186 | 20=>20 | 213=>292 | 46=>216 | 232=>342 | 233=>215 |n=>n,λ | 17=>3 | 18=>7 | 19=>0 |n=>n⟩
theorem Tryz.laysM171:Go.Proofs.LaysM.n171 Tryz.prog Tryz.laysM171_ren:={
 mixed:=by kernel_rfl
 f129:=Tryz.func270.trans (congrArg some (by kernel_rfl))
 f171:=Tryz.func63.trans (congrArg some (by kernel_rfl))
 f243:=Tryz.func103.trans (congrArg some (by kernel_rfl))
 f246:=Tryz.func152.trans (congrArg some (by kernel_rfl))
 f283:=Tryz.func208.trans (congrArg some (by kernel_rfl))
 f284:=Tryz.func209.trans (congrArg some (by kernel_rfl))
 f285:=Tryz.func210.trans (congrArg some (by kernel_rfl))
 f286:=Tryz.func211.trans (congrArg some (by kernel_rfl))
 f317:=Tryz.func269.trans (congrArg some (by kernel_rfl))
 f318:=Tryz.func271.trans (congrArg some (by kernel_rfl))
 f319:=Tryz.func272.trans (congrArg some (by kernel_rfl))
 f320:=Tryz.func273.trans (congrArg some (by kernel_rfl))
 f337:=Tryz.func315.trans (congrArg some (by kernel_rfl))
 f338:=Tryz.func106.trans (congrArg some (by kernel_rfl))
 t0:=Tryz.underlying0
 a0:=Tryz.isAgg0
 z0:=Tryz.sizeOf0
 v0:=Tryz.zeroValue0
 t2:=Tryz.underlying2
 a2:=Tryz.isAgg2
 z2:=Tryz.sizeOf2
 v2:=Tryz.zeroValue2
 t3:=Tryz.underlying3
 a3:=Tryz.isAgg3
 z3:=Tryz.sizeOf3
 v3:=Tryz.zeroValue3
 t4:=Tryz.underlying4
 a4:=Tryz.isAgg4
 z4:=Tryz.sizeOf4
 v4:=Tryz.zeroValue4
 t5:=Tryz.underlying5
 a5:=Tryz.isAgg5
 z5:=Tryz.sizeOf5
 v5:=Tryz.zeroValue5
 t9:=Tryz.underlying9
 a9:=Tryz.isAgg9
 z9:=Tryz.sizeOf9
 v9:=Tryz.zeroValue9
 t20:=Tryz.underlying20
 a20:=Tryz.isAgg20
 z20:=Tryz.sizeOf20
 v20:=Tryz.zeroValue20
 t37:=Tryz.underlying53
 a37:=Tryz.isAgg53
 z37:=Tryz.sizeOf53
 v37:=Tryz.zeroValue53
 t46:=Tryz.underlying216
 a46:=Tryz.isAgg216
 z46:=Tryz.sizeOf216
 v46:=Tryz.zeroValue216
 t51:=Tryz.underlying186
 a51:=Tryz.isAgg186
 z51:=Tryz.sizeOf186
 v51:=Tryz.zeroValue186
 t53:=Tryz.underlying22
 a53:=Tryz.isAgg22
 z53:=Tryz.sizeOf22
 v53:=Tryz.zeroValue22
 t171:=Tryz.underlying255
 a171:=Tryz.isAgg255
 z171:=Tryz.sizeOf255
 v171:=Tryz.zeroValue255
 t173:=Tryz.underlying257
 a173:=Tryz.isAgg257
 z173:=Tryz.sizeOf257
 v173:=Tryz.zeroValue257
 t212:=Tryz.underlying291
 a212:=Tryz.isAgg291
 z212:=Tryz.sizeOf291
 v212:=Tryz.zeroValue291
 t213:=Tryz.underlying292
 a213:=Tryz.isAgg292
 z213:=Tryz.sizeOf292
 t232:=Tryz.underlying342
 a232:=Tryz.isAgg342
 z232:=Tryz.sizeOf342
 v232:=Tryz.zeroValue342
 t233:=Tryz.underlying215
 a233:=Tryz.isAgg215
 z233:=Tryz.sizeOf215
 v233:=Tryz.zeroValue215
 g17:=by kernel_rfl
 g18:=by kernel_rfl
 g19:=by kernel_rfl
 i0:=by kernel_rfl
 i2:=by kernel_rfl
 i3:=by kernel_rfl
 i4:=by kernel_rfl
 i5:=by kernel_rfl
 i9:=by kernel_rfl
 i20:=by kernel_rfl
 i37:=by kernel_rfl
 i46:=by kernel_rfl
 i51:=by kernel_rfl
 i53:=by kernel_rfl
 i171:=by kernel_rfl
 i173:=by kernel_rfl
 i212:=by kernel_rfl
 i232:=by kernel_rfl
 i233:=by kernel_rfl
 m17:=by kernel_rfl
 m18:=by kernel_rfl
 m19:=by kernel_rfl}
open Go.RowKit Go.Sort Go.Lib in
theorem Tryz.strconv_Itoa (n:Int)(h0: -9223372036854775808≤n)(h1:n≤9223372036854775807)(w:World)(htab:Lib.TabIs Tryz.prog w "internal/strconv.uint64pow10" .u64 Lib.pow10Tab):
 Calls Tryz.prog 63 #[.int .i64 n] w λe w'=>e= .returned (.string ⟨(Lib.itoa n).toArray⟩)/\∃k os,w'=grow (w.drewN k) os:=Any.strconv_Itoa Tryz.laysM171 n h0 h1 w htab
def Tryz.lays171_ren:Go.Shelf.Ren:=⟨λ | 171=>63 | 243=>103 | 246=>152 | 283=>208 | 284=>209 | 285=>210 | 286=>211 | 129=>270 | 317=>269 | 318=>271 | 319=>272 | 320=>273 | 337=>315 | 338=>106 |n=>n,λ | 3=>3 | 9=>9 | 2=>2 | 4=>4 | 171=>255 | 0=>0 | 53=>22 | 37=>53 | 5=>5 | 173=>257 | 212=>291 | 51=>186 | 20=>20 | 213=>292 | 46=>216 | 232=>342 | 233=>215 |n=>n,λ | 17=>3 | 18=>7 | 19=>0 |n=>n⟩
theorem Tryz.lays171:Go.Proofs.Lays.n171 Tryz.prog Tryz.lays171_ren:={
 mixed:=by kernel_rfl
 f129:=Tryz.func270.trans (congrArg some (by kernel_rfl))
 f171:=Tryz.func63.trans (congrArg some (by kernel_rfl))
 f243:=Tryz.func103.trans (congrArg some (by kernel_rfl))
 f246:=Tryz.func152.trans (congrArg some (by kernel_rfl))
 f283:=Tryz.func208.trans (congrArg some (by kernel_rfl))
 f284:=Tryz.func209.trans (congrArg some (by kernel_rfl))
 f285:=Tryz.func210.trans (congrArg some (by kernel_rfl))
 f286:=Tryz.func211.trans (congrArg some (by kernel_rfl))
 f317:=Tryz.func269.trans (congrArg some (by kernel_rfl))
 f318:=Tryz.func271.trans (congrArg some (by kernel_rfl))
 f319:=Tryz.func272.trans (congrArg some (by kernel_rfl))
 f320:=Tryz.func273.trans (congrArg some (by kernel_rfl))
 f337:=Tryz.func315.trans (congrArg some (by kernel_rfl))
 f338:=Tryz.func106.trans (congrArg some (by kernel_rfl))
 t0:=Tryz.underlying0
 a0:=Tryz.isAgg0
 z0:=Tryz.sizeOf0
 v0:=Tryz.zeroValue0
 t2:=Tryz.underlying2
 a2:=Tryz.isAgg2
 z2:=Tryz.sizeOf2
 v2:=Tryz.zeroValue2
 t3:=Tryz.underlying3
 a3:=Tryz.isAgg3
 z3:=Tryz.sizeOf3
 v3:=Tryz.zeroValue3
 t4:=Tryz.underlying4
 a4:=Tryz.isAgg4
 z4:=Tryz.sizeOf4
 v4:=Tryz.zeroValue4
 t5:=Tryz.underlying5
 a5:=Tryz.isAgg5
 z5:=Tryz.sizeOf5
 v5:=Tryz.zeroValue5
 t9:=Tryz.underlying9
 a9:=Tryz.isAgg9
 z9:=Tryz.sizeOf9
 v9:=Tryz.zeroValue9
 t20:=Tryz.underlying20
 a20:=Tryz.isAgg20
 z20:=Tryz.sizeOf20
 v20:=Tryz.zeroValue20
 t37:=Tryz.underlying53
 a37:=Tryz.isAgg53
 z37:=Tryz.sizeOf53
 v37:=Tryz.zeroValue53
 t46:=Tryz.underlying216
 a46:=Tryz.isAgg216
 z46:=Tryz.sizeOf216
 v46:=Tryz.zeroValue216
 t51:=Tryz.underlying186
 a51:=Tryz.isAgg186
 z51:=Tryz.sizeOf186
 v51:=Tryz.zeroValue186
 t53:=Tryz.underlying22
 a53:=Tryz.isAgg22
 z53:=Tryz.sizeOf22
 v53:=Tryz.zeroValue22
 t171:=Tryz.underlying255
 a171:=Tryz.isAgg255
 z171:=Tryz.sizeOf255
 v171:=Tryz.zeroValue255
 t173:=Tryz.underlying257
 a173:=Tryz.isAgg257
 z173:=Tryz.sizeOf257
 v173:=Tryz.zeroValue257
 t212:=Tryz.underlying291
 a212:=Tryz.isAgg291
 z212:=Tryz.sizeOf291
 v212:=Tryz.zeroValue291
 t213:=Tryz.underlying292
 a213:=Tryz.isAgg292
 z213:=Tryz.sizeOf292
 t232:=Tryz.underlying342
 a232:=Tryz.isAgg342
 z232:=Tryz.sizeOf342
 v232:=Tryz.zeroValue342
 t233:=Tryz.underlying215
 a233:=Tryz.isAgg215
 z233:=Tryz.sizeOf215
 v233:=Tryz.zeroValue215
 g17:=by kernel_rfl
 g18:=by kernel_rfl
 g19:=by kernel_rfl}
open Go.RowKit Go.Sort Go.Lib in
theorem Tryz.strconv_Itoa_small (i:Nat)(hi:i<100)(w:World):
 Calls Tryz.prog 63 #[.int .i64 i] w λe w'=>e= .returned (.string ⟨(Lib.decDigits i).toArray⟩)/\w'=w:=Any.strconv_Itoa_small Tryz.lays171 i hi w
def Tryz.laysC172_ren:Go.Shelf.Ren:=⟨λ | 172=>83 | 244=>123 | 245=>124 | 247=>174 | 279=>175 | 280=>176 | 281=>177 | 282=>178 | 287=>223 | 316=>224 | 171=>63 | 205=>225 | 321=>281 | 322=>282 | 243=>103 | 246=>152 | 283=>208 | 284=>209 | 285=>210 | 286=>211 | 129=>270 | 317=>269 | 318=>271 | 319=>272 | 320=>273 | 337=>315 | 338=>106 |n=>n,λ | 9=>9 | 3=>3 | 75=>57 | 76=>58 | 4=>4 | 5=>5 | 167=>229 | 37=>53 | 0=>0 | 85=>230 | 2=>2 | 168=>232 | 53=>22 | 175=>267 | 46=>216 | 210=>270 | 127=>103 | 145=>306 | 143=>304 | 21=>21 | 171=>255 | 173=>257 | 212=>291 | 51=>186 | 20=>20 | 213=>292 | 232=>342 | 233=>215 | 80=>63 |n=>n,λ | 15=>1 | 16=>2 | 17=>3 | 18=>7 | 19=>0 |n=>n⟩
theorem Tryz.laysC172:Go.Proofs.LaysC.n172 Tryz.prog Tryz.laysC172_ren:={
 mixed:=by kernel_rfl
 f129:=Tryz.func270.trans (congrArg some (by kernel_rfl))
 f171:=Tryz.func63.trans (congrArg some (by kernel_rfl))
 f172:=Tryz.func83.trans (congrArg some (by kernel_rfl))
 f205:=Tryz.func225.trans (congrArg some (by kernel_rfl))
 f243:=Tryz.func103.trans (congrArg some (by kernel_rfl))
 f244:=Tryz.func123.trans (congrArg some (by kernel_rfl))
 f245:=Tryz.func124.trans (congrArg some (by kernel_rfl))
 f246:=Tryz.func152.trans (congrArg some (by kernel_rfl))
 f247:=Tryz.func174.trans (congrArg some (by kernel_rfl))
 f279:=Tryz.func175.trans (congrArg some (by kernel_rfl))
 f280:=Tryz.func176.trans (congrArg some (by kernel_rfl))
 f281:=Tryz.func177.trans (congrArg some (by kernel_rfl))
 f282:=Tryz.func178.trans (congrArg some (by kernel_rfl))
 f283:=Tryz.func208.trans (congrArg some (by kernel_rfl))
 f284:=Tryz.func209.trans (congrArg some (by kernel_rfl))
 f285:=Tryz.func210.trans (congrArg some (by kernel_rfl))
 f286:=Tryz.func211.trans (congrArg some (by kernel_rfl))
 f287:=Tryz.func223.trans (congrArg some (by kernel_rfl))
 f316:=Tryz.func224.trans (congrArg some (by kernel_rfl))
 f317:=Tryz.func269.trans (congrArg some (by kernel_rfl))
 f318:=Tryz.func271.trans (congrArg some (by kernel_rfl))
 f319:=Tryz.func272.trans (congrArg some (by kernel_rfl))
 f320:=Tryz.func273.trans (congrArg some (by kernel_rfl))
 f321:=Tryz.func281.trans (congrArg some (by kernel_rfl))
 f322:=Tryz.func282.trans (congrArg some (by kernel_rfl))
 f337:=Tryz.func315.trans (congrArg some (by kernel_rfl))
 f338:=Tryz.func106.trans (congrArg some (by kernel_rfl))
 t0:=Tryz.underlying0
 a0:=Tryz.isAgg0
 z0:=Tryz.sizeOf0
 v0:=Tryz.zeroValue0
 t2:=Tryz.underlying2
 a2:=Tryz.isAgg2
 z2:=Tryz.sizeOf2
 v2:=Tryz.zeroValue2
 t3:=Tryz.underlying3
 a3:=Tryz.isAgg3
 z3:=Tryz.sizeOf3
 v3:=Tryz.zeroValue3
 t4:=Tryz.underlying4
 a4:=Tryz.isAgg4
 z4:=Tryz.sizeOf4
 v4:=Tryz.zeroValue4
 t5:=Tryz.underlying5
 a5:=Tryz.isAgg5
 z5:=Tryz.sizeOf5
 v5:=Tryz.zeroValue5
 t9:=Tryz.underlying9
 a9:=Tryz.isAgg9
 z9:=Tryz.sizeOf9
 v9:=Tryz.zeroValue9
 t20:=Tryz.underlying20
 a20:=Tryz.isAgg20
 z20:=Tryz.sizeOf20
 v20:=Tryz.zeroValue20
 t21:=Tryz.underlying21
 a21:=Tryz.isAgg21
 z21:=Tryz.sizeOf21
 v21:=Tryz.zeroValue21
 t37:=Tryz.underlying53
 a37:=Tryz.isAgg53
 z37:=Tryz.sizeOf53
 v37:=Tryz.zeroValue53
 t46:=Tryz.underlying216
 a46:=Tryz.isAgg216
 z46:=Tryz.sizeOf216
 v46:=Tryz.zeroValue216
 t51:=Tryz.underlying186
 a51:=Tryz.isAgg186
 z51:=Tryz.sizeOf186
 v51:=Tryz.zeroValue186
 t53:=Tryz.underlying22
 a53:=Tryz.isAgg22
 z53:=Tryz.sizeOf22
 v53:=Tryz.zeroValue22
 t75:=Tryz.underlying57
 a75:=Tryz.isAgg57
 z75:=Tryz.sizeOf57
 v75:=Tryz.zeroValue57
 t76:=Tryz.underlying58
 a76:=Tryz.isAgg58
 z76:=Tryz.sizeOf58
 v76:=Tryz.zeroValue58
 t85:=Tryz.underlying230
 a85:=Tryz.isAgg230
 z85:=Tryz.sizeOf230
 v85:=Tryz.zeroValue230
 t127:=Tryz.underlying103
 a127:=Tryz.isAgg103
 z127:=Tryz.sizeOf103
 v127:=Tryz.zeroValue103
 t143:=Tryz.underlying304
 a143:=Tryz.isAgg304
 z143:=Tryz.sizeOf304
 v143:=Tryz.zeroValue304
 t145:=Tryz.underlying306
 a145:=Tryz.isAgg306
 z145:=Tryz.sizeOf306
 v145:=Tryz.zeroValue306
 t167:=Tryz.underlying229
 a167:=Tryz.isAgg229
 z167:=Tryz.sizeOf229
 v167:=Tryz.zeroValue229
 t168:=Tryz.underlying232
 a168:=Tryz.isAgg232
 z168:=Tryz.sizeOf232
 v168:=Tryz.zeroValue232
 t171:=Tryz.underlying255
 a171:=Tryz.isAgg255
 z171:=Tryz.sizeOf255
 v171:=Tryz.zeroValue255
 t173:=Tryz.underlying257
 a173:=Tryz.isAgg257
 z173:=Tryz.sizeOf257
 v173:=Tryz.zeroValue257
 t175:=Tryz.underlying267
 a175:=Tryz.isAgg267
 z175:=Tryz.sizeOf267
 v175:=Tryz.zeroValue267
 t210:=Tryz.underlying270
 a210:=Tryz.isAgg270
 z210:=Tryz.sizeOf270
 v210:=Tryz.zeroValue270
 t212:=Tryz.underlying291
 a212:=Tryz.isAgg291
 z212:=Tryz.sizeOf291
 v212:=Tryz.zeroValue291
 t213:=Tryz.underlying292
 a213:=Tryz.isAgg292
 z213:=Tryz.sizeOf292
 t232:=Tryz.underlying342
 a232:=Tryz.isAgg342
 z232:=Tryz.sizeOf342
 v232:=Tryz.zeroValue342
 t233:=Tryz.underlying215
 a233:=Tryz.isAgg215
 z233:=Tryz.sizeOf215
 v233:=Tryz.zeroValue215
 g15:=by kernel_rfl
 g16:=by kernel_rfl
 g17:=by kernel_rfl
 g18:=by kernel_rfl
 g19:=by kernel_rfl
 t80:=Tryz.underlying63
 a80:=Tryz.isAgg63
 z80:=Tryz.sizeOf63
 v80:=Tryz.zeroValue63
 i0:=by kernel_rfl
 i2:=by kernel_rfl
 i3:=by kernel_rfl
 i4:=by kernel_rfl
 i5:=by kernel_rfl
 i9:=by kernel_rfl
 i20:=by kernel_rfl
 i21:=by kernel_rfl
 i37:=by kernel_rfl
 i46:=by kernel_rfl
 i51:=by kernel_rfl
 i53:=by kernel_rfl
 i75:=by kernel_rfl
 i76:=by kernel_rfl
 i80:=by kernel_rfl
 i85:=by kernel_rfl
 i127:=by kernel_rfl
 i143:=by kernel_rfl
 i145:=by kernel_rfl
 i167:=by kernel_rfl
 i168:=by kernel_rfl
 i171:=by kernel_rfl
 i173:=by kernel_rfl
 i175:=by kernel_rfl
 i210:=by kernel_rfl
 i212:=by kernel_rfl
 i232:=by kernel_rfl
 i233:=by kernel_rfl
 m15:=by kernel_rfl
 m16:=by kernel_rfl
 m17:=by kernel_rfl
 m18:=by kernel_rfl
 m19:=by kernel_rfl
 c0:=by kernel_rfl
 c2:=by kernel_rfl
 c3:=by kernel_rfl
 c4:=by kernel_rfl
 c5:=by kernel_rfl
 c9:=by kernel_rfl
 c20:=by kernel_rfl
 c21:=by kernel_rfl
 c37:=by kernel_rfl
 c46:=by kernel_rfl
 c51:=by kernel_rfl
 c53:=by kernel_rfl
 c75:=by kernel_rfl
 c76:=by kernel_rfl
 c80:=by kernel_rfl
 c85:=by kernel_rfl
 c127:=by kernel_rfl
 c143:=by kernel_rfl
 c145:=by kernel_rfl
 c167:=by kernel_rfl
 c168:=by kernel_rfl
 c171:=by kernel_rfl
 c173:=by kernel_rfl
 c175:=by kernel_rfl
 c210:=by kernel_rfl
 c212:=by kernel_rfl
 c213:=by kernel_rfl
 c232:=by kernel_rfl
 c233:=by kernel_rfl}
open Go.RowKit in
theorem Tryz.strconv_Atoi_ok (s:ByteArray)(hmax:s.size<=9223372036854775806)(v:Int)(h:Lib.atoiAll s.data.toList= .ok v)(w:World):
 Calls Tryz.prog 83 #[.string s] w λe w'=>e= .returned (.tuple #[.int .i64 v,.nilIface])/\(w'=w\/∃t,w'=Lib.bytesWorld w 5 t):=Any.strconv_Atoi_ok Tryz.laysC172 s hmax v h w
open Go.RowKit in
theorem Tryz.strconv_Atoi_syntax (s:ByteArray)(hlim:s.size<=281474976710656)(h:Lib.atoiAll s.data.toList=Lib.atoiAll [])(ev:Value)(w:World)(hv:w.cell? ⟨1,0,none⟩=some ev)(hev:ev= .nilIface\/∃te pe,ev= .iface te pe):
 Calls Tryz.prog 83 #[.string s] w λe w'=>∃N,e= .returned (.tuple #[.int .i64 (0),.iface 232 (.pointer (some ⟨N,0,none⟩))])/\w.heap.size<=N/\w'.heap[N]? =some (.cells #[.string ⟨#[65,116,111,105]⟩,.string s,ev] 270 (0,0))/\Below w.heap.size w w':=Any.strconv_Atoi_syntax Tryz.laysC172 s hlim h ev w hv hev
open Go.RowKit in
theorem Tryz.strconv_Atoi_range (s:ByteArray)(hlim:s.size<=281474976710656)(h:Lib.atoiAll s.data.toList= .range)(ev:Value)(w:World)(hv:w.cell? ⟨2,0,none⟩=some ev)(hev:ev= .nilIface\/∃te pe,ev= .iface te pe):
 Calls Tryz.prog 83 #[.string s] w λe w'=>∃N,e= .returned (.tuple #[.int .i64 (Lib.atoiSat s.data.toList),.iface 232 (.pointer (some ⟨N,0,none⟩))])/\w.heap.size<=N/\w'.heap[N]? =some (.cells #[.string ⟨#[65,116,111,105]⟩,.string s,ev] 270 (0,0))/\Below w.heap.size w w':=Any.strconv_Atoi_range Tryz.laysC172 s hlim h ev w hv hev
def Tryz.lays219_ren:Go.Shelf.Ren:=⟨λ | 219=>213 | 217=>274 | 225=>275 | 224=>276 | 267=>277 | 266=>316 | 314=>317 |n=>n,λ | 9=>9 | 3=>3 | 4=>4 | 5=>5 | 46=>216 | 146=>295 | 51=>186 |n=>n,λ | 1=>4 |n=>n⟩
theorem Tryz.lays219:Go.Proofs.Lays.n219 Tryz.prog Tryz.lays219_ren:={
 mixed:=by kernel_rfl
 f217:=Tryz.func274.trans (congrArg some (by kernel_rfl))
 f219:=Tryz.func213.trans (congrArg some (by kernel_rfl))
 f224:=Tryz.func276.trans (congrArg some (by kernel_rfl))
 f225:=Tryz.func275.trans (congrArg some (by kernel_rfl))
 f266:=Tryz.func316.trans (congrArg some (by kernel_rfl))
 f267:=Tryz.func277.trans (congrArg some (by kernel_rfl))
 f314:=Tryz.func317.trans (congrArg some (by kernel_rfl))
 t3:=Tryz.underlying3
 a3:=Tryz.isAgg3
 z3:=Tryz.sizeOf3
 v3:=Tryz.zeroValue3
 t4:=Tryz.underlying4
 a4:=Tryz.isAgg4
 z4:=Tryz.sizeOf4
 v4:=Tryz.zeroValue4
 t5:=Tryz.underlying5
 a5:=Tryz.isAgg5
 z5:=Tryz.sizeOf5
 v5:=Tryz.zeroValue5
 t9:=Tryz.underlying9
 a9:=Tryz.isAgg9
 z9:=Tryz.sizeOf9
 v9:=Tryz.zeroValue9
 t46:=Tryz.underlying216
 a46:=Tryz.isAgg216
 z46:=Tryz.sizeOf216
 v46:=Tryz.zeroValue216
 t51:=Tryz.underlying186
 a51:=Tryz.isAgg186
 z51:=Tryz.sizeOf186
 v51:=Tryz.zeroValue186
 t146:=Tryz.underlying295
 a146:=Tryz.isAgg295
 z146:=Tryz.sizeOf295
 v146:=Tryz.zeroValue295
 g1:=by kernel_rfl}
open Go.RowKit Go.Lib in
theorem Tryz.stringslite_Index_one (s:ByteArray)(c:UInt8)(w:World):
 Calls Tryz.prog 213 #[.string s,.string ⟨#[c]⟩] w λe w'=>e= .returned (.int .i64 (Lib.indexByte s.data.toList c))/\w'=w:=Any.stringslite_Index_one Tryz.lays219 s c w
def Tryz.lays143_ren:Go.Shelf.Ren:=⟨λ | 143=>173 | 219=>213 | 217=>274 | 225=>275 | 224=>276 | 267=>277 | 266=>316 | 314=>317 |n=>n,λ | 9=>9 | 3=>3 | 4=>4 | 5=>5 | 46=>216 | 146=>295 | 51=>186 |n=>n,λ | 1=>4 |n=>n⟩
theorem Tryz.lays143:Go.Proofs.Lays.n143 Tryz.prog Tryz.lays143_ren:={
 mixed:=by kernel_rfl
 f143:=Tryz.func173.trans (congrArg some (by kernel_rfl))
 f217:=Tryz.func274.trans (congrArg some (by kernel_rfl))
 f219:=Tryz.func213.trans (congrArg some (by kernel_rfl))
 f224:=Tryz.func276.trans (congrArg some (by kernel_rfl))
 f225:=Tryz.func275.trans (congrArg some (by kernel_rfl))
 f266:=Tryz.func316.trans (congrArg some (by kernel_rfl))
 f267:=Tryz.func277.trans (congrArg some (by kernel_rfl))
 f314:=Tryz.func317.trans (congrArg some (by kernel_rfl))
 t3:=Tryz.underlying3
 a3:=Tryz.isAgg3
 z3:=Tryz.sizeOf3
 v3:=Tryz.zeroValue3
 t4:=Tryz.underlying4
 a4:=Tryz.isAgg4
 z4:=Tryz.sizeOf4
 v4:=Tryz.zeroValue4
 t5:=Tryz.underlying5
 a5:=Tryz.isAgg5
 z5:=Tryz.sizeOf5
 v5:=Tryz.zeroValue5
 t9:=Tryz.underlying9
 a9:=Tryz.isAgg9
 z9:=Tryz.sizeOf9
 v9:=Tryz.zeroValue9
 t46:=Tryz.underlying216
 a46:=Tryz.isAgg216
 z46:=Tryz.sizeOf216
 v46:=Tryz.zeroValue216
 t51:=Tryz.underlying186
 a51:=Tryz.isAgg186
 z51:=Tryz.sizeOf186
 v51:=Tryz.zeroValue186
 t146:=Tryz.underlying295
 a146:=Tryz.isAgg295
 z146:=Tryz.sizeOf295
 v146:=Tryz.zeroValue295
 g1:=by kernel_rfl}
open Go.RowKit Go.Lib in
theorem Tryz.strings_Index_one (s:ByteArray)(c:UInt8)(w:World):
 Calls Tryz.prog 173 #[.string s,.string ⟨#[c]⟩] w λe w'=>e= .returned (.int .i64 (Lib.indexByte s.data.toList c))/\w'=w:=Any.strings_Index_one Tryz.lays143 s c w
def Tryz.lays105_ren:Go.Shelf.Ren:=⟨λ | 105=>167 | 212=>219 | 99=>141 | 165=>104 | 166=>26 | 170=>220 | 169=>30 | 263=>279 | 264=>280 | 206=>201 | 240=>62 | 241=>153 | 276=>102 | 277=>212 |n=>n,λ | 9=>9 | 3=>3 | 4=>4 | 20=>20 | 0=>0 | 46=>216 | 109=>263 | 5=>5 | 72=>55 | 76=>58 | 51=>186 | 146=>295 | 53=>22 | 148=>297 | 70=>52 | 37=>53 | 75=>57 | 127=>103 | 164=>163 | 80=>63 |n=>n,λ |n=>n⟩
theorem Tryz.lays105:Go.Proofs.Lays.n105 Tryz.prog Tryz.lays105_ren:={
 mixed:=by kernel_rfl
 f99:=Tryz.func141.trans (congrArg some (by kernel_rfl))
 f105:=Tryz.func167.trans (congrArg some (by kernel_rfl))
 f165:=Tryz.func104.trans (congrArg some (by kernel_rfl))
 f166:=Tryz.func26.trans (congrArg some (by kernel_rfl))
 f169:=Tryz.func30.trans (congrArg some (by kernel_rfl))
 f170:=Tryz.func220.trans (congrArg some (by kernel_rfl))
 f206:=Tryz.func201.trans (congrArg some (by kernel_rfl))
 f212:=Tryz.func219.trans (congrArg some (by kernel_rfl))
 f240:=Tryz.func62.trans (congrArg some (by kernel_rfl))
 f241:=Tryz.func153.trans (congrArg some (by kernel_rfl))
 f263:=Tryz.func279.trans (congrArg some (by kernel_rfl))
 f264:=Tryz.func280.trans (congrArg some (by kernel_rfl))
 f276:=Tryz.func102.trans (congrArg some (by kernel_rfl))
 f277:=Tryz.func212.trans (congrArg some (by kernel_rfl))
 t0:=Tryz.underlying0
 a0:=Tryz.isAgg0
 z0:=Tryz.sizeOf0
 v0:=Tryz.zeroValue0
 t3:=Tryz.underlying3
 a3:=Tryz.isAgg3
 z3:=Tryz.sizeOf3
 v3:=Tryz.zeroValue3
 t4:=Tryz.underlying4
 a4:=Tryz.isAgg4
 z4:=Tryz.sizeOf4
 v4:=Tryz.zeroValue4
 t5:=Tryz.underlying5
 a5:=Tryz.isAgg5
 z5:=Tryz.sizeOf5
 v5:=Tryz.zeroValue5
 t9:=Tryz.underlying9
 a9:=Tryz.isAgg9
 z9:=Tryz.sizeOf9
 v9:=Tryz.zeroValue9
 t20:=Tryz.underlying20
 a20:=Tryz.isAgg20
 z20:=Tryz.sizeOf20
 v20:=Tryz.zeroValue20
 t37:=Tryz.underlying53
 a37:=Tryz.isAgg53
 z37:=Tryz.sizeOf53
 v37:=Tryz.zeroValue53
 t46:=Tryz.underlying216
 a46:=Tryz.isAgg216
 z46:=Tryz.sizeOf216
 v46:=Tryz.zeroValue216
 t51:=Tryz.underlying186
 a51:=Tryz.isAgg186
 z51:=Tryz.sizeOf186
 v51:=Tryz.zeroValue186
 t53:=Tryz.underlying22
 a53:=Tryz.isAgg22
 z53:=Tryz.sizeOf22
 v53:=Tryz.zeroValue22
 t70:=Tryz.underlying52
 a70:=Tryz.isAgg52
 z70:=Tryz.sizeOf52
 v70:=Tryz.zeroValue52
 t72:=Tryz.underlying55
 a72:=Tryz.isAgg55
 z72:=Tryz.sizeOf55
 v72:=Tryz.zeroValue55
 t75:=Tryz.underlying57
 a75:=Tryz.isAgg57
 z75:=Tryz.sizeOf57
 v75:=Tryz.zeroValue57
 t76:=Tryz.underlying58
 a76:=Tryz.isAgg58
 z76:=Tryz.sizeOf58
 v76:=Tryz.zeroValue58
 t109:=Tryz.underlying263
 a109:=Tryz.isAgg263
 z109:=Tryz.sizeOf263
 v109:=Tryz.zeroValue263
 t127:=Tryz.underlying103
 a127:=Tryz.isAgg103
 z127:=Tryz.sizeOf103
 v127:=Tryz.zeroValue103
 t146:=Tryz.underlying295
 a146:=Tryz.isAgg295
 z146:=Tryz.sizeOf295
 v146:=Tryz.zeroValue295
 t148:=Tryz.underlying297
 a148:=Tryz.isAgg297
 z148:=Tryz.sizeOf297
 v148:=Tryz.zeroValue297
 t164:=Tryz.underlying163
 a164:=Tryz.isAgg163
 z164:=Tryz.sizeOf163
 v164:=Tryz.zeroValue163}
theorem Tryz.Builder_Extra_105:Builder.Extra Tryz.prog Tryz.lays105_ren:={
 sizeBuilder:=by kernel_rfl
 liesBuilder:=by kernel_rfl
 t5:=Tryz.underlying5
 a5:=Tryz.isAgg5
 z5:=Tryz.sizeOf5
 v5:=Tryz.zeroValue5
 infoByte:=by kernel_rfl
 cellsByte:=by kernel_rfl
 sizeByte:=by kernel_rfl
 neB5:=by decide}
open Go.RowKit Go.Lib in
theorem Tryz.strings_Repeat (s:ByteArray)(c:Nat)(w:World)(hc:c<=9223372036854775807)(hlen:s.size*c<=140737488355328):
 Calls Tryz.prog 167 #[.string s,.int .i64 c] w λe w'=>e= .returned (.string ⟨(Lib.repeatL s.data.toList c).toArray⟩)/\Below w.heap.size w w':=Any.strings_Repeat Tryz.lays105 Tryz.Builder_Extra_105 s c w hc hlen
end Go.Proofs
namespace Go.Proofs.YtogjgbmngagimaaGreatDoor
section
open Go.RowKit Go.Sort Go.Lib Go.Shelf
theorem Kw (w:World)(T:TypeId)(nd:Nat)(hs:nd<=24):Holds (λ(b:UInt8)=>Value.int .u8 (b.toNat:Int)) (w.alloc (.cells zeros24 T)) w.heap.size 0 (Array.replicate nd (0:UInt8)):=λj hj=>by
 have hj':j<nd:=by simpa using hj
 refine⟨?_,World.frozen?_alloc_new _ _ _ _⟩;rw[World.cell?_alloc_new,zeros24_at _ (by omega),getElem!_pos _ j hj];simp
theorem Ida (w:World)(o:Obj)(dk:Array UInt8)(k:Nat):Below w.heap.size w ((putRow (λ(b:UInt8)=>Value.int .u8 (b.toNat:Int)) (w.alloc o) w.heap.size 0 dk).drewN k):=by
 rw[alloc_eq_grow];obtain⟨os',_,e⟩:=putRow_grow_new (λ(b:UInt8)=>Value.int .u8 (b.toNat:Int)) w #[o] w.heap.size 0 dk Lr;rw[e];exact⟨rfl,rfl,rfl,by show w.heap.size<=(grow w os').heap.size;simp,λg hg=>heap_grow_old w os' hg⟩
theorem Ri (u:Nat)(w:World)(hu64:u<18446744073709551616)(htab:Lib.TabIs Tryz.prog w "internal/strconv.uint64pow10" .u64 Lib.pow10Tab):
 Calls Tryz.prog 218 #[.int .u64 (u:Int),.int .i64 10] w λe w'=>e= .returned (.string ⟨(Lib.decDigits u).toArray⟩)/\Below w.heap.size w w':=by
 by_cases hs:u<100
 ·go_enter Tryz.func218,Tryz.ntmps218
  go_wp2_with (go_at_call 208;refine(Tryz.internal_strconv_small u hs _).mono ?_;rintro e w' ⟨rfl,rfl⟩)
  go_ret;exact⟨rfl,Br⟩
 have hu1:1<=u:=by omega
 have hnd20:Lib.nDigits u<=20:=by have:=Lib.numDigits_eq u hu1 hu64;split at this<;>omega
 have hH0:=Kw w 255 (Lib.nDigits u) (by omega);have hfmt:=Tryz.internal_strconv_formatBase10 w.heap.size 0 24 u (Array.replicate (Lib.nDigits u) 0) (w.alloc (.cells Lib.zeros24 255)) hH0 (by rw[Array.size_replicate];exact Lib.lt_pow_nDigits u) hu64 (by rw[Array.size_replicate];omega);rw[Array.size_replicate] at hfmt;have HH0:=Qd hH0;clear hH0;have hal:Program.arrayLen Tryz.prog 255=24:=by simp[Program.arrayLen,Tryz.underlying255]
 have hb3:Lib.nDigits u<=24:=by omega
 have hsl1:∀W,(Instr.sliceAt 255 (.pointer (some ⟨w.heap.size,0,none⟩)) none (some (.int .i64 (Lib.nDigits u:Int))) none).run Tryz.prog W= .ok (.slice (some ⟨w.heap.size,0,none⟩) (Lib.nDigits u) 24) W:=λW=>by
  rw[run_sliceAt_array_h W 255 ⟨w.heap.size,0,none⟩ (by simp[Program.arrayLen,Program.elem,Tryz.underlying255]) .i64 (Lib.nDigits u:Int) (by omega) (by rw[hal];omega)];go_simp
 clear hal;go_enter Tryz.func218,Tryz.ntmps218
 go_wp2_with (first
  |(go_at_call 209;refine(Tryz.internal_strconv_numDigits u hu1 hu64 _ (Lib.tabIs_alloc htab _)).mono ?_;rintro e w' ⟨rfl,rfl⟩))
 refine hfmt.mono ?_;rintro e w' ⟨rfl,k,v',dk,rfl,hF⟩;have hcv:(convert 53 9 (.slice (some ⟨w.heap.size,0,none⟩) (Lib.nDigits u) 24)).run Tryz.prog ((putRow (λ(b:UInt8)=>Value.int .u8 (b.toNat:Int)) (w.alloc (.cells Lib.zeros24 255)) w.heap.size 0 dk).drewN k)= .ok (.string ⟨(Lib.decDigits u).toArray⟩) ((putRow (λ(b:UInt8)=>Value.int .u8 (b.toNat:Int)) (w.alloc (.cells Lib.zeros24 255)) w.heap.size 0 dk).drewN k):=by
  have h:=run_convert_bytes_back (P:=Tryz.prog) ((putRow (λ(b:UInt8)=>Value.int .u8 (b.toNat:Int)) (w.alloc (.cells Lib.zeros24 255)) w.heap.size 0 dk).drewN k) 53 9 5 ⟨w.heap.size,0,none⟩ 24 (Lib.decDigits u) Tryz.underlying53 Tryz.underlying5 Tryz.underlying9 (λj hj=>by
   rw[Lib.row_is_numeral hF j hj,Lib.add_plain,World.cell?_drewN];exact cell?_putRow (λ(b:UInt8)=>Value.int .u8 (b.toNat:Int)) _ w.heap.size 0 _ dk HH0.out (by rw[hF.size,Array.size_replicate]) j (by rw[hF.size];rw[Lib.decDigits_length] at hj;exact hj))
  rw[Lib.decDigits_length] at h;exact h
 go_wp2_with fail
 go_ret;exact⟨rfl,Ida _ _ _ _⟩
theorem Zo (u:Nat)(w:World)(hu64:u<18446744073709551616)(htab:Lib.TabIs Tryz.prog w "internal/strconv.uint64pow10" .u64 Lib.pow10Tab):
 Calls Tryz.prog 166 #[.int .u64 (u:Int),.int .i64 10] w λe w'=>e= .returned (.string ⟨(Lib.decDigits u).toArray⟩)/\Below w.heap.size w w':=by
 go_enter Tryz.func166,Tryz.ntmps166
 go_wp2_with (go_at_call 218;refine(Ri u w hu64 htab).mono ?_;rintro e w' ⟨rfl,hb⟩)
 go_ret;exact⟨rfl,hb⟩
end
open Go.RowKit
def NatTold (s:List UInt8)(w:World)(e:Ending)(w':World):Prop:=Below w.heap.size w w'/\∃(v:Value) (ok:Bool) (n:Nat),e= .returned (.tuple #[v,.bool ok])/\IsRes w' v (Nt.digs n)/\((ok=true/\Ten.Valid s/\n=Ten.numOf s)\/(ok=false/\¬Ten.Valid s/\n=0))
theorem NatTold.no {s:List UInt8}{w w':World}(hb:Below w.heap.size w w')(h:¬Ten.Valid s):NatTold s w (.returned (.tuple #[.slice none 0 0,.bool false])) w':=⟨hb,_,false,0,rfl,by rw[Nt.digs_zero];exact IsRes.none_ _,.inr ⟨rfl,h,rfl⟩⟩
theorem NatTold.yes {s:List UInt8}{w w':World}{v:Value}(hb:Below w.heap.size w w')(h:Ten.Valid s)(hv:IsRes w' v (Nt.digs (Ten.numOf s))):NatTold s w (.returned (.tuple #[v,.bool true])) w':=⟨hb,_,true,_,rfl,hv,.inl ⟨rfl,h,rfl⟩⟩
def NumAt (s:List UInt8)(k n:Nat):Prop:=n=Ten.numOf (s.take k)/\∀j (hj:j<s.length),j<k->Ten.isDig s[j]
theorem NumAt.start (s:List UInt8):NumAt s 0 0:=⟨rfl,λj _ h=>absurd h (by omega)⟩
theorem NumAt.step {s:List UInt8}{k n:Nat}(h:NumAt s k n)(hk:k<s.length)(hd:Ten.isDig s[k]):NumAt s (k+1) (n*10+(s[k].toNat-48)):=by
 refine⟨?_,λj hj hjk=>?_⟩
 ·rw[List.take_succ_eq_append_getElem hk,Ten.numOf_snoc,<-h.1];omega
 by_cases e:j=k
 ·subst e;exact hd
 exact h.2 j hj (by omega)
theorem NumAt.done {s:List UInt8}{n:Nat}(h:NumAt s s.length n)(h0:s≠[])(h1:1<s.length->s.head?≠some 48):Ten.Valid s/\n=Ten.numOf s:=by
 refine⟨⟨h0,h1,λb hb=>?_⟩,by rw[h.1,List.take_length]⟩;obtain⟨j,hj,rfl⟩:=List.mem_iff_getElem.1 hb;exact h.2 j hj hj
theorem Zf {s:List UInt8}{k:Nat}(hk:k<s.length)(h:s[k].toNat<48\/57<s[k].toNat):¬Ten.Valid s:=λhv=>by
 have:=hv.2.2 s[k] (List.getElem_mem hk);unfold Ten.isDig at this;omega
theorem Mk {s:List UInt8}(h:0<s.length):s.head?=some s[0]:=by
 cases s with
 |nil=>simp at h
 |cons b r=>rfl
theorem Wt (s:List UInt8)(w:World)(hs:s.length<=1000):Calls Tryz.prog 231 #[.string ⟨s.toArray⟩] w (NatTold s w):=by
 obtain⟨i0,hi,hz0,hz1,hz2⟩:=info_parts Ob;by_cases h0:s.length=0
 ·have HN:=Qd (NatTold.no (w:=w) (w':=w) (s:=s) Br (λh=>h.1 (List.eq_nil_of_length_eq_zero h0)))
  have h0a:((s.length:Int)==0)=true:=by simp[h0]
  clear h0;go_enter Tryz.func231,Tryz.ntmps231
  go_wp2_with fail
  go_ret2
  exact HN.out
 have hpos:0<s.length:=by omega
 have h0a:((s.length:Int)==0)=false:=by rw[beq_eq_false_iff_ne];omega
 obtain⟨z,hz⟩:∃z,z=s[0].toNat:=⟨_,rfl⟩;have hg0:((⟨s.toArray⟩:ByteArray)[0]'(show 0<(⟨s.toArray⟩:ByteArray).size from hpos)).toNat=z:=hz.symm;by_cases hlead:1<s.length/\z=48
 ·obtain⟨h1,hz48⟩:=hlead
  have HN:=Qd (NatTold.no (w:=w) (w':=w) (s:=s) Br (λh=>h.2.1 h1 (by rw[Mk hpos,UInt8.toNat_inj.1 (show s[0].toNat=(48:UInt8).toNat by rw[<-hz,hz48];rfl)])));have hza:((z:Int)==48)=true:=by simp[hz48]
  clear h0 hz hz48;go_enter Tryz.func231,Tryz.ntmps231
  go_wp2_with fail
  go_ret2
  exact HN.out
 have HV:Hid (s≠[]/\(1<s.length->s.head?≠some 48)):=Qd ⟨λe=>by rw[e] at hpos;simp at hpos,λh1 e=>hlead ⟨h1,by
  rw[Mk hpos] at e;injection e with e;rw[hz,e];rfl⟩⟩
 have hgo:s.length<=1\/(1<s.length/\((z:Int)==48)=false):=by
  rcases Nat.lt_or_ge 1 s.length with h |h
  ·exact .inr ⟨h,by rw[beq_eq_false_iff_ne];intro e;exact hlead ⟨h,by omega⟩⟩
  exact .inl h
 clear hlead hz h0;go_enter Tryz.func231,Tryz.ntmps231
 rcases hgo with hl1 |⟨hl1,hza⟩
 ·go_wp2_with fail
  go_loopw [4,5] (λov i wr=>∃(k n:Nat),k<=s.length/\(Nt.digs n).length<=k/\i= .int .i64 (k:Int)/\wr.ownsRow w.heap.size 186 1 ov (Nt.digs n).length (U (Nt.digs n))/\Below w.heap.size w wr/\Hid (NumAt s k n)) (λ_ i _=>s.length-(intOf i).toNat)
  case atStart=>exact⟨0,0,by omega,by rw[Nt.digs_zero];simp,rfl,by rw[Nt.digs_zero];exact World.ownsRow_nil _ _ _ _,Br,Qd (NumAt.start s)⟩
  case round=>
   obtain⟨k,n,hk,hdl,rfl,hown,hbel,H⟩:=hrel;have hsz:=hbel.size;by_cases hlt:k<s.length
   ·obtain⟨y,hy⟩:∃y,y=s[k].toNat:=⟨_,rfl⟩
    have hgy:((⟨s.toArray⟩:ByteArray)[k]'(show k<(⟨s.toArray⟩:ByteArray).size from hlt)).toNat=y:=hy.symm;have hy8:y<256:=by rw[hy];exact UInt8.toNat_lt _
    by_cases hd:48<=y/\y<=57
    ·obtain⟨hd1,hd2⟩:=hd
     have ST:=Qd (H.out.step hlt ⟨by rw[<-hy];exact hd1,by rw[<-hy];exact hd2⟩);rw[<-hy] at ST;obtain⟨m,hm⟩:∃m,m=y-48:=⟨_,rfl⟩;have hmi:(y:Int)-48=(m:Int):=by omega
     have hm9:m<=9:=by omega
     rw[<-hm] at ST;have OX:=Qd (Nt.ok_digs n);have D0:Hid (∀cur,Nt.LenAt (Nt.digs n) 10 m cur (Nt.digs n).length 0->Nt.digs (n*10+m)=cur):=Qd (λcur h=>Nt.len_done0 h (by omega));have D1:Hid (∀cur c,Nt.LenAt (Nt.digs n) 10 m cur (Nt.digs n).length c->c≠0->Nt.digs (n*10+m)=cur++[c]):=Qd (λcur c h hc=>Nt.len_done1 h hc);obtain⟨dx,hdx⟩:∃dx,dx=Nt.digs n:=⟨_,rfl⟩;rw[<-hdx] at hown hdl OX D0 D1;obtain⟨A,C,rfl,hC1,hC2⟩:=Sa hown;clear hy hm hdx H;go_wp2_with fail
     go_loopw [6,7] (λcv i wr=>∃(k c:Nat) (cur:List Nat),k<=dx.length/\c<4294967296/\i= .int .i64 (k:Int)/\cv= .int .u64 (c:Int)/\wr.ownsRow w.heap.size 186 1 (.slice A dx.length C) dx.length (U cur)/\Below w.heap.size w wr/\Hid (Nt.LenAt dx 10 m cur k c)) (λ_ i _=>dx.length-(intOf i).toNat)
     case atStart=>exact⟨0,m,dx,Nat.zero_le _,by omega,rfl,congrArg (Value.int .u64) (by omega),hown,hbel,Qd (Nt.len_start OX.out (by omega))⟩
     case round=>
      clear hown hbel hsz;obtain⟨k2,c,cur,hk2,hc,rfl,rfl,hown,hbel,H⟩:=hrel;have hsz:=hbel.size;by_cases hlt2:k2<dx.length
      ·exact absurd hlt2 (by omega)
      obtain rfl:k2=dx.length:=by omega
      have hcl:Hid (cur.length=dx.length):=Qd H.out.1;by_cases hc0:c=0
      ·subst hc0
       have HE:=Qd (D0.out cur H.out);go_wp2_with fail
       refine⟨⟨k+1,n*10+m,by omega,by rw[HE.out,hcl.out];omega,by go_num,?_,hbel,ST⟩,by simp[intOf];omega⟩;rw[HE.out,hcl.out];exact hown
      have HE:=Qd (D1.out cur c H.out hc0);have hc1:(0:Int)<(c:Int):=by omega
      go_wp2_with (at_builtin;refine wpList_append_own _ rfl _ _ 83 rfl w.heap.size 186 i0 (.int .u32 0) 1 4 Tryz.underlying83 hi hz0 hz1 hz2 rfl (by decide) _ _ _ rfl (hown.alloc _) ⟨_,0,none⟩ 1 1 [.int .u32 (c:Int)] rfl rfl (cell_one_new _ _ _) (by intro u hu;simp only[List.mem_singleton] at hu;subst hu;rfl) (by unfold maxLen;omega) (by omega) (by simp;omega) ?_;intro v3 w3 hown3 hgrow3 hnn3)
      have hb3:Below w.heap.size w w3:=(hbel.alloc (by omega) _).grown hgrow3 (by simp;omega) (λk hk=>(hown.lt k hk).1);refine⟨⟨k+1,n*10+m,by omega,by rw[HE.out,List.length_append,hcl.out];simp;omega,by go_num,?_,hb3,ST⟩,by simp[intOf];omega⟩;rw[HE.out,List.length_append,hcl.out]
      simpa [U] using hown3
    have HN:=Qd (NatTold.no (w:=w) (w':=wr) (s:=s) hbel (Zf hlt (by rw[<-hy];omega)));have hc:y<48\/(48<=y/\57<y):=by omega
    clear hy hd;rcases hc with hc |⟨hc,hc2⟩
    all_goals
     go_wp2_with fail
     go_ret2
     exact HN.out
   obtain rfl:k=s.length:=by omega
   have HD:=Qd (H.out.done HV.out.1 HV.out.2);have HY:=Qd (NatTold.yes hbel HD.out.1 (by rw[<-HD.out.2];exact IsRes.of_own hown));go_wp2_with fail
   go_ret2
   exact HY.out
 go_wp2_with fail
 go_loopw [4,5] (λov i wr=>∃(k n:Nat),k<=s.length/\(Nt.digs n).length<=k/\i= .int .i64 (k:Int)/\wr.ownsRow w.heap.size 186 1 ov (Nt.digs n).length (U (Nt.digs n))/\Below w.heap.size w wr/\Hid (NumAt s k n)) (λ_ i _=>s.length-(intOf i).toNat)
 case atStart=>exact⟨0,0,by omega,by rw[Nt.digs_zero];simp,rfl,by rw[Nt.digs_zero];exact World.ownsRow_nil _ _ _ _,Br,Qd (NumAt.start s)⟩
 case round=>
  obtain⟨k,n,hk,hdl,rfl,hown,hbel,H⟩:=hrel;have hsz:=hbel.size;by_cases hlt:k<s.length
  ·obtain⟨y,hy⟩:∃y,y=s[k].toNat:=⟨_,rfl⟩
   have hgy:((⟨s.toArray⟩:ByteArray)[k]'(show k<(⟨s.toArray⟩:ByteArray).size from hlt)).toNat=y:=hy.symm;have hy8:y<256:=by rw[hy];exact UInt8.toNat_lt _
   by_cases hd:48<=y/\y<=57
   ·obtain⟨hd1,hd2⟩:=hd
    have ST:=Qd (H.out.step hlt ⟨by rw[<-hy];exact hd1,by rw[<-hy];exact hd2⟩);rw[<-hy] at ST;obtain⟨m,hm⟩:∃m,m=y-48:=⟨_,rfl⟩;have hmi:(y:Int)-48=(m:Int):=by omega
    have hm9:m<=9:=by omega
    rw[<-hm] at ST;have OX:=Qd (Nt.ok_digs n);have D0:Hid (∀cur,Nt.LenAt (Nt.digs n) 10 m cur (Nt.digs n).length 0->Nt.digs (n*10+m)=cur):=Qd (λcur h=>Nt.len_done0 h (by omega));have D1:Hid (∀cur c,Nt.LenAt (Nt.digs n) 10 m cur (Nt.digs n).length c->c≠0->Nt.digs (n*10+m)=cur++[c]):=Qd (λcur c h hc=>Nt.len_done1 h hc);obtain⟨dx,hdx⟩:∃dx,dx=Nt.digs n:=⟨_,rfl⟩;rw[<-hdx] at hown hdl OX D0 D1;obtain⟨A,C,rfl,hC1,hC2⟩:=Sa hown;clear hy hm hdx H;go_wp2_with fail
    go_loopw [6,7] (λcv i wr=>∃(k c:Nat) (cur:List Nat),k<=dx.length/\c<4294967296/\i= .int .i64 (k:Int)/\cv= .int .u64 (c:Int)/\wr.ownsRow w.heap.size 186 1 (.slice A dx.length C) dx.length (U cur)/\Below w.heap.size w wr/\Hid (Nt.LenAt dx 10 m cur k c)) (λ_ i _=>dx.length-(intOf i).toNat)
    case atStart=>exact⟨0,m,dx,Nat.zero_le _,by omega,rfl,congrArg (Value.int .u64) (by omega),hown,hbel,Qd (Nt.len_start OX.out (by omega))⟩
    case round=>
     clear hown hbel hsz;obtain⟨k2,c,cur,hk2,hc,rfl,rfl,hown,hbel,H⟩:=hrel;have hsz:=hbel.size;by_cases hlt2:k2<dx.length
     ·obtain⟨g,rfl,hgb,hcell,hfz,hset⟩:=J0 hown hlt2
      have hget:=Nt.len_get H.out hlt2;rw[U,List.getElem?_map,hget,Option.map_some] at hcell;have hxb:=Nt.ok_get OX.out hlt2;have ST2:=Qd (Nt.len_step H.out hlt2 OX.out (by omega));have BD:=Nt.len_bounds hxb (show 10<4294967296 by omega) hc;have HSET:Hid (∀s:Nat,(wr.setCell ⟨g,k2,none⟩ (.int .u32 (s:Int))).ownsRow w.heap.size 186 1 (.slice (some ⟨g,0,none⟩) dx.length C) dx.length (U (cur.set k2 s))):=Qd (λs=>by
       have:=hset (.int .u32 (s:Int));rw[show(U cur).set k2 (.int .u32 (s:Int))=U (cur.set k2 s) from List.map_set.symm] at this;exact this)
      have HB2:Hid (∀s,Below w.heap.size w (wr.setCell ⟨g,k2,none⟩ s)):=Qd (λs=>hbel.setCell hgb _);clear hset hget hown;generalize dx[k2]=x at*;obtain⟨ht1,ht2,ht3,ht4⟩:=BD;go_wp2_with fail
      exact⟨⟨k2+1,(x*10+c)/4294967296,cur.set k2 ((x*10+c)%4294967296),by omega,ht2,by go_num,congrArg (Value.int .u64) (by omega),HSET.out _,HB2.out _,ST2⟩,by simp[intOf];omega⟩
     obtain rfl:k2=dx.length:=by omega
     have hcl:Hid (cur.length=dx.length):=Qd H.out.1;by_cases hc0:c=0
     ·subst hc0
      have HE:=Qd (D0.out cur H.out);go_wp2_with fail
      refine⟨⟨k+1,n*10+m,by omega,by rw[HE.out,hcl.out];omega,by go_num,?_,hbel,ST⟩,by simp[intOf];omega⟩;rw[HE.out,hcl.out];exact hown
     have HE:=Qd (D1.out cur c H.out hc0);have hc1:(0:Int)<(c:Int):=by omega
     go_wp2_with (at_builtin;refine wpList_append_own _ rfl _ _ 83 rfl w.heap.size 186 i0 (.int .u32 0) 1 4 Tryz.underlying83 hi hz0 hz1 hz2 rfl (by decide) _ _ _ rfl (hown.alloc _) ⟨_,0,none⟩ 1 1 [.int .u32 (c:Int)] rfl rfl (cell_one_new _ _ _) (by intro u hu;simp only[List.mem_singleton] at hu;subst hu;rfl) (by unfold maxLen;omega) (by omega) (by simp;omega) ?_;intro v3 w3 hown3 hgrow3 hnn3)
     have hb3:Below w.heap.size w w3:=(hbel.alloc (by omega) _).grown hgrow3 (by simp;omega) (λk hk=>(hown.lt k hk).1);refine⟨⟨k+1,n*10+m,by omega,by rw[HE.out,List.length_append,hcl.out];simp;omega,by go_num,?_,hb3,ST⟩,by simp[intOf];omega⟩;rw[HE.out,List.length_append,hcl.out]
     simpa [U] using hown3
   have HN:=Qd (NatTold.no (w:=w) (w':=wr) (s:=s) hbel (Zf hlt (by rw[<-hy];omega)));have hc:y<48\/(48<=y/\57<y):=by omega
   clear hy hd;rcases hc with hc |⟨hc,hc2⟩
   all_goals
    go_wp2_with fail
    go_ret2
    exact HN.out
  obtain rfl:k=s.length:=by omega
  have HD:=Qd (H.out.done HV.out.1 HV.out.2);have HY:=Qd (NatTold.yes hbel HD.out.1 (by rw[<-HD.out.2];exact IsRes.of_own hown));go_wp2_with fail
  go_ret2
  exact HY.out
def PartAt (s:List UInt8)(n at0 k p sc:Nat):Prop:=sc=10^(k-at0)/\p<sc/\Ten.numOf (s.take k)=n*sc+p
theorem PartAt.start {s:List UInt8}{n at0:Nat}(h:n=Ten.numOf (s.take at0)):PartAt s n at0 at0 0 1:=⟨by rw[Nat.sub_self],by omega,by rw[<-h,Nat.mul_one,Nat.add_zero]⟩
theorem PartAt.step {s:List UInt8}{n at0 k p sc:Nat}(h:PartAt s n at0 k p sc)(h1:at0<=k)(hk:k<s.length)(hd:Ten.isDig s[k]):PartAt s n at0 (k+1) (10*p+(s[k].toNat-48)) (sc*10):=by
 obtain⟨e1,e2,e3⟩:=h;have:=hd.2;refine⟨by rw[e1,show k+1-at0=(k-at0)+1 by omega,Nat.pow_succ],by omega,?_⟩;rw[List.take_succ_eq_append_getElem hk,Ten.numOf_snoc,e3];rw[show n*(sc*10)=n*sc*10 from(Nat.mul_assoc _ _ _).symm];generalize n*sc=q;omega
theorem PartAt.bound {s:List UInt8}{n at0 k p sc:Nat}(h:PartAt s n at0 k p sc)(m:Nat)(hk:k-at0<=m):1<=sc/\sc<=10^m/\p<10^m:=by
 obtain⟨e1,e2,e3⟩:=h;have h1:10^(k-at0)<=10^m:=Nat.pow_le_pow_right (by omega) hk;have h2:1<=10^(k-at0):=Nat.pow_pos (by omega);omega
theorem Uaa:∀(t:List UInt8),(∀b∈t,Ten.isDig b)->Ten.numOf t<10^t.length:=by
 intro t
 induction h:t.length generalizing t with
 |zero=>intro _;rw[List.eq_nil_of_length_eq_zero h];decide
 |succ n ih=>
  intro hd;have hne:t≠[]:=by intro e;rw[e] at h;simp at h
  obtain⟨r,b,rfl⟩:∃r b,t=r++[b]:=⟨t.dropLast,t.getLast hne,(List.dropLast_concat_getLast hne).symm⟩;have:=ih r (by simpa using h) (λc hc=>hd c (List.mem_append_left _ hc));have hb:=hd b (by simp);have:=hb.2;rw[Ten.numOf_snoc,Nat.pow_succ];omega
theorem I9 {s:List UInt8}(h:Ten.Valid s){k:Nat}(hk:k<=s.length):(Nt.digs (Ten.numOf (s.take k))).length<=k:=by
 have:=Uaa (s.take k) (λb hb=>h.2.2 b (List.mem_of_mem_take hb));rw[List.length_take,Nat.min_eq_left hk] at this;exact Nt.digs_len_lt (Nat.lt_of_lt_of_le this (Nat.pow_le_pow_left (by omega) k))
theorem Z2 (s:List UInt8)(w:World)(hs:s.length<=1000):Calls Tryz.prog 228 #[.string ⟨s.toArray⟩] w (NatTold s w):=by
 obtain⟨i0,hi,hz0,hz1,hz2⟩:=info_parts Ob;by_cases h0:s=[]
 ·have HN:=Qd (NatTold.no (w:=w) (w':=w) (s:=s) Br (λh=>h.1 h0))
  subst h0;go_enter Tryz.func228,Tryz.ntmps228
  go_wp2_with fail
  go_ret2
  exact HN.out
 have hpos:0<s.length:=List.length_pos_iff.2 h0;have h0a:s.isEmpty=false:=by simpa using h0
 obtain⟨z,hz⟩:∃z,z=s[0].toNat:=⟨_,rfl⟩;have hg0:((⟨s.toArray⟩:ByteArray)[0]'(show 0<(⟨s.toArray⟩:ByteArray).size from hpos)).toNat=z:=hz.symm;by_cases hlead:1<s.length/\z=48
 ·obtain⟨h1,hz48⟩:=hlead
  have HN:=Qd (NatTold.no (w:=w) (w':=w) (s:=s) Br (λh=>h.2.1 h1 (by rw[Mk hpos,UInt8.toNat_inj.1 (show s[0].toNat=(48:UInt8).toNat by rw[<-hz,hz48];rfl)])));have hza:((z:Int)==48)=true:=by simp[hz48]
  clear h0 hz hz48;go_enter Tryz.func228,Tryz.ntmps228
  go_wp2_with fail
  go_ret2
  exact HN.out
 have HV:Hid (s≠[]/\(1<s.length->s.head?≠some 48)):=Qd ⟨h0,λh1 e=>hlead ⟨h1,by
  rw[Mk hpos] at e;injection e with e;rw[hz,e];rfl⟩⟩
 have hgo:s.length<=1\/(1<s.length/\((z:Int)==48)=false):=by
  rcases Nat.lt_or_ge 1 s.length with h |h
  ·exact .inr ⟨h,by rw[beq_eq_false_iff_ne];intro e;exact hlead ⟨h,by omega⟩⟩
  exact .inl h
 clear hlead hz h0;go_enter Tryz.func228,Tryz.ntmps228
 rcases hgo with hl1 |⟨hl1,hza⟩
 all_goals
  go_wp2_with fail
  go_loop [24] (λi=>∃k:Nat,k<=s.length/\i= .int .i64 (k:Int)/\Hid (∀j (hj:j<s.length),j<k->Ten.isDig s[j])) (λi=>s.length-(intOf i).toNat)
  case atStart=>exact⟨0,by omega,rfl,Qd (λj _ h=>absurd h (by omega))⟩
  case round=>
   obtain⟨k,hk,rfl,H⟩:=hrel;by_cases hlt:k<s.length
   ·obtain⟨y,hy⟩:∃y,y=s[k].toNat:=⟨_,rfl⟩
    have hgy:((⟨s.toArray⟩:ByteArray)[k]'(show k<(⟨s.toArray⟩:ByteArray).size from hlt)).toNat=y:=hy.symm;have hy8:y<256:=by rw[hy];exact UInt8.toNat_lt _
    by_cases hd:48<=y/\y<=57
    ·obtain⟨hd1,hd2⟩:=hd
     have HD:Hid (∀j (hj:j<s.length),j<k+1->Ten.isDig s[j]):=Qd (λj hj hjk=>by
      by_cases e:j=k
      ·subst e;exact⟨by rw[<-hy];exact hd1,by rw[<-hy];exact hd2⟩
      exact H.out j hj (by omega))
     clear hy;go_wp2_with fail
     exact⟨⟨k+1,by omega,by go_num,HD⟩,by simp[intOf];omega⟩
    have HN:=Qd (NatTold.no (w:=w) (w':=w) (s:=s) Br (Zf hlt (by rw[<-hy];omega)));have hc:y<48\/(48<=y/\57<y):=by omega
    clear hy hd;rcases hc with hc |⟨hc,hc2⟩
    all_goals
     go_wp2_with fail
     go_ret2
     exact HN.out
   obtain rfl:k=s.length:=by omega
   have HVAL:Hid (Ten.Valid s):=Qd ⟨HV.out.1,HV.out.2,λb hb=>by
    obtain⟨j,hj,rfl⟩:=List.mem_iff_getElem.1 hb;exact H.out j hj hj⟩
   clear hlt;go_wp2_with (at_make;refine Hb _ rfl _ _ 83 rfl 186 i0 (.int .u32 0) Tryz.underlying83 hi hz0 hz1 rfl .i64 .i64 _ _ 0 (s.length/9+1) rfl rfl rfl (by go_num) (by omega) (by rw[hz2];omega) (by omega) w.heap.size w Br Lr ?_;intro w1 hblk1 hb1 hb1' hlt1)
   have hown1:w1.ownsRow w.heap.size 186 1 (.slice (some ⟨w.heap.size,0,none⟩) 0 (s.length/9+1)) 0 []:=by
    have:=hblk1.own (base:=w.heap.size) (n:=0) Lr (by omega) (by simp[maxLen];omega)
    simpa using this
   clear hblk1 hb1' hlt1;go_loopw [5,6] (λov i wr=>∃(k n:Nat),k<=s.length/\i= .int .i64 (k:Int)/\wr.ownsRow w.heap.size 186 1 ov (Nt.digs n).length (U (Nt.digs n))/\Below w.heap.size w wr/\Hid (n=Ten.numOf (s.take k))) (λ_ i _=>s.length-(intOf i).toNat)
   case atStart=>exact⟨0,0,by omega,rfl,by rw[Nt.digs_zero];exact hown1,hb1,Qd rfl⟩
   case round=>
    clear hown1 hb1;obtain⟨k,n,hk,rfl,hown,hbel,H2⟩:=hrel;have hsz:=hbel.size;by_cases hlt:k<s.length
    ·have hdl:(Nt.digs n).length<=1000000:=by
      have:=I9 HVAL.out hk;rw[H2.out];omega
     obtain⟨E,hE⟩:∃E:Nat,E=min (k+9) s.length:=⟨_,rfl⟩;have hE1:k<E:=by omega
     have hE2:E<=s.length:=by omega
     have hE3:E<=k+9:=by omega
     have hEi:min ((k:Int)+9) (s.length:Int)=(E:Int):=by omega
     clear hE;go_wp2_with fail
     go_loop [6,7,8] (λav pv sv=>∃(j p sc:Nat),k<=j/\j<=E/\p<1000000000/\1<=sc/\sc<=1000000000/\av= .int .i64 (j:Int)/\pv= .int .u32 (p:Int)/\sv= .int .u32 (sc:Int)/\Hid (PartAt s n k j p sc)) (λav _ _=>E-(intOf av).toNat)
     case atStart=>exact⟨k,0,1,Lr,by omega,by omega,by omega,by omega,rfl,rfl,rfl,Qd (PartAt.start H2.out)⟩
     case round=>
      obtain⟨j,p,sc,hj1,hj2,hp,hsc1,hsc2,rfl,rfl,rfl,HP⟩:=hrel;by_cases hjE:j<E
      ·have hjs:j<s.length:=by omega
       obtain⟨y,hy⟩:∃y,y=s[j].toNat:=⟨_,rfl⟩;have hgy:((⟨s.toArray⟩:ByteArray)[j]'(show j<(⟨s.toArray⟩:ByteArray).size from hjs)).toNat=y:=hy.symm;have hdg:=HVAL.out.2.2 s[j] (List.getElem_mem hjs);have ST:=Qd (HP.out.step hj1 hjs hdg);have BD:=HP.out.bound 8 (by omega);simp only[Nat.reducePow] at BD;obtain⟨_,hb1,hb2⟩:=BD;unfold Ten.isDig at hdg;rw[<-hy] at ST hdg;obtain⟨hd1,hd2⟩:=hdg;clear hy;go_wp2_with fail
       exact⟨⟨j+1,10*p+(y-48),sc*10,by omega,by omega,by omega,by omega,by omega,by go_num,congrArg (Value.int .u32) (by omega),congrArg (Value.int .u32) (by omega),ST⟩,by simp[intOf];omega⟩
      obtain rfl:j=E:=by omega
      have LEN:=Qd (Ps w.heap.size _ n sc p wr hown hsz hdl hsc1 (by omega) (by omega));clear hown;go_wp2_with (go_at_call 289;refine LEN.out.mono ?_;rintro e w2 ⟨v2,rfl,hown2,hb2⟩)
      exact⟨⟨j,n*sc+p,by omega,rfl,hown2,hbel.trans hb2,Qd HP.out.2.2.symm⟩,by simp[intOf];omega⟩
    obtain rfl:k=s.length:=by omega
    have HY:=Qd (NatTold.yes hbel HVAL.out (by have:=H2.out;rw[List.take_length] at this;rw[<-this];exact IsRes.of_own hown));go_wp2_with fail
    go_ret2
    exact HY.out
def Px (w:World)(n:Nat)(e:Ending)(w':World):Prop:=∃v,e= .returned v/\IsRes w' v (Nt.digs n)/\Below w.heap.size w w'
theorem Mi {s:List UInt8}{w w':World}{e:Ending}(h:NatTold s w e w')(hv:Ten.Valid s):∃v,e= .returned (.tuple #[v,.bool true])/\IsRes w' v (Nt.digs (Ten.numOf s))/\Below w.heap.size w w':=by
 obtain⟨hb,v,ok,n,rfl,hr,hc⟩:=h;rcases hc with⟨rfl,_,rfl⟩ |⟨_,h2,_⟩
 ·exact⟨v,rfl,hr,hb⟩
 exact absurd hv h2
theorem Bd (s:List UInt8)(w:World)(hs:s.length<=1000)(hd:∀b∈s,Ten.isDig b):
 Calls Tryz.prog 181 #[.string ⟨s.toArray⟩] w (Px w (Ten.numOf s)):=by
 have TL:=Tryz.strings_TrimLeft_one ⟨s.toArray⟩ 48 (by decide) w;rw[show(⟨s.toArray⟩:ByteArray).data.toList=s from rfl,show Lib.trimLeftB s 48=Dg.strip s from rfl] at TL;have hl:=Dg.strip_len s;have HV:=Qd (λh=>Dg.strip_valid hd h);have HN:=Qd (Dg.numOf_strip s);have HZ:=Qd (λh=>Dg.strip_nil (s:=s) h);generalize Dg.strip s=t at*;have HTL:=Qd TL;clear TL hd;by_cases h0:t=[]
 ·have hz:=HZ.out h0
  have hemp:t.isEmpty=true:=by rw[h0];rfl
  have HZ2:=Qd hz;subst h0;clear hz HV HN HZ;go_enter Tryz.func181,Tryz.ntmps181
  go_wp2_with fail
  refine HTL.out.mono ?_;rintro e w' ⟨rfl,rfl⟩;go_wp2_with fail
  go_ret;exact⟨_,rfl,by rw[HZ2.out,Nt.digs_zero];exact IsRes.none_ _,Br⟩
 have hemp:t.isEmpty=false:=by cases t with |nil=>exact absurd rfl h0 |cons a r=>rfl
 have h1:¬t=[]:=h0;have PA:=Qd (λ(wx:World)=>Z2 t wx (by omega));have HV2:=Qd (HV.out h0);clear HZ HV;go_enter Tryz.func181,Tryz.ntmps181
 go_wp2_with fail
 refine HTL.out.mono ?_;rintro e w' ⟨rfl,rfl⟩;go_wp2_with fail
 refine(PA.out _).mono ?_;rintro e w2 hnt;obtain⟨v,rfl,hr,hb⟩:=Mi hnt HV2.out;have HR:=Qd hr;clear hnt hr;go_wp2_with fail
 go_ret;exact⟨_,rfl,by rw[<-HN.out];exact HR.out,hb⟩
theorem Zh (s:List UInt8)(n:Nat):(⟨s.toArray⟩:ByteArray).extract n s.length=⟨(s.drop n).toArray⟩:=by
 apply ByteArray.ext
 simp;exact List.take_of_length_le (by simp)
theorem Hm (s:List UInt8)(n:Nat)(h:n<=s.length):(⟨s.toArray⟩:ByteArray).extract 0 n=⟨(s.take n).toArray⟩:=by
 apply ByteArray.ext
 simp
def SkipAt (s:List UInt8)(k:Nat):Prop:=∀i (hi:i<s.length),i<k->s[i]=48
theorem SkipAt.step {s:List UInt8}{k:Nat}(h:SkipAt s k)(hk:k<s.length)(he:s[k]=48):SkipAt s (k+1):=λi hi hik=>by
 by_cases e:i=k
 ·subst e;exact he
 exact h i hi (by omega)
theorem SkipAt.done {s:List UInt8}{k:Nat}(h:SkipAt s k)(hd:∀b∈s,Ten.isDig b)(hk:k<s.length)(hn:k+1<s.length->s[k]≠48):Ten.Valid (s.drop k)/\Ten.numOf (s.drop k)=Ten.numOf s:=⟨Dg.valid_drop hd hk hn,Dg.numOf_drop h (by omega)⟩
theorem Mg (s:List UInt8)(w:World)(hs:s.length<=1000)(h0:0<s.length)(hd:∀b∈s,Ten.isDig b):
 Calls Tryz.prog 184 #[.string ⟨s.toArray⟩] w (Px w (Ten.numOf s)):=by
 have hsz:(⟨s.toArray⟩:ByteArray).size=s.length:=rfl;have HSZ:=Qd hsz;have HD:=Qd hd;clear hsz hd;go_enter Tryz.func184,Tryz.ntmps184
 go_wp2
 go_loop [3] (λi=>∃k:Nat,k<s.length/\i= .int .i64 (k:Int)/\Hid (SkipAt s k)) (λi=>s.length-(intOf i).toNat)
 case atStart=>exact⟨0,h0,rfl,Qd (λi hi h=>absurd h (by omega))⟩
 case round=>
  obtain⟨k,hk,rfl,H⟩:=hrel;have PA:=Qd (λ(wx:World)=>Wt (s.drop k) wx (by rw[List.length_drop];omega));have SF:=Qd (Zh s k);have hfin:(k+1<s.length->s[k]≠48)->∀e w2,NatTold (s.drop k) w e w2->∃v,e= .returned (.tuple #[v,.bool true])/\IsRes w2 v (Nt.digs (Ten.numOf s))/\Below w.heap.size w w2:=by
   intro hn e w2 hnt;obtain⟨hv,he⟩:=H.out.done HD.out hk hn;rw[<-he];exact Mi hnt hv
  have HF:=Qd hfin;clear hfin;by_cases hlt:k+1<s.length
  ·obtain⟨y,hy⟩:∃y,y=s[k].toNat:=⟨_,rfl⟩
   have hgy:((⟨s.toArray⟩:ByteArray)[k]'(show k<(⟨s.toArray⟩:ByteArray).size from hk)).toNat=y:=hy.symm;have HY:=Qd hy;have h48:Hid (s[k]=48↔y=48):=Qd (by
    rw[hy]
    constructor
    ·intro h;rw[h];rfl
    intro h;exact UInt8.toNat_inj.1 (by rw[h];rfl))
   clear hy;by_cases h1:y=48
   ·subst h1
    have HS:=Qd (H.out.step hk (h48.out.2 rfl));clear PA SF HF;go_wp2
    go_round
    case rel=>exact⟨k+1,hlt,by go_num,HS⟩
    case measure=>simp[intOf];omega
   have hq:((y:Int)==48)=false:=beq_eq_false_iff_ne.2 (by omega);have HF2:=Qd (HF.out (λ_ h=>h1 (h48.out.1 h)));clear HF;go_wp2_with fail
   rw[SF.out];refine(PA.out _).mono ?_;rintro e w2 hnt;obtain⟨v,rfl,hr,hb⟩:=HF2.out e w2 hnt;have HR:=Qd hr;clear hnt hr PA SF HF2;go_wp2_with fail
   go_ret;exact⟨_,rfl,HR.out,hb⟩
  have HF2:=Qd (HF.out (λh=>absurd h hlt));clear HF;go_wp2_with fail
  rw[SF.out];refine(PA.out _).mono ?_;rintro e w2 hnt;obtain⟨v,rfl,hr,hb⟩:=HF2.out e w2 hnt;have HR:=Qd hr;clear hnt hr PA SF HF2;go_wp2_with fail
  go_ret;exact⟨_,rfl,HR.out,hb⟩
theorem Cc (a b:List Nat):U (a++b)=U a++U b:=by simp[U]
theorem Dz (G c c' T j n:Nat)(A':Option Addr)(P a Q d:List Nat)(w:World)(hblk:Blk w G 186 (U (P++(a++Q))))(hP:P.length=j)(hy:Lies w G A' (U d))(ha:Nt.Ok a)(hd:Nt.Ok d)(hla:a.length=n+1)(hld:d.length=n)(hc:n+1<=c)(hc':n<=c')(hm:c<=9223372036854775807)(hm':c'<=9223372036854775807)(hT:T<4294967296)(hs:n<=1000000):
 Calls Tryz.prog 322 #[.slice (some ⟨G,j,none⟩) (n+1) c,.slice A' n c',.int .u64 (T:Int)] w λe w'=>∃(win:List Nat) (b:Nat),e= .returned (.bool (decide (b=1)))/\b<=1/\Blk w' G 186 (U (P++(win++Q)))/\Hid (win.length=n+1/\Nt.Ok win/\Nt.val win+T*Nt.val d=Nt.val a+b*4294967296^(n+1))/\w.grownBy w' (some G):=by
 subst hld;subst hP;rw[Cc,Cc] at hblk;have h:=Lv G c c' T A' (U P) (U Q) a d w hblk hy ha hd hla hc hc' hm hm' hT hs;rw[Dc] at h;refine h.mono ?_;rintro e w' ⟨win,b,he,hb,hblk',H,hg⟩;refine⟨win,b,he,hb,by rw[Cc,Cc];exact hblk',Qd ⟨by rw[H.out.1,hla],H.out.2.1,H.out.2.2⟩,hg⟩
theorem Ez (G c c' j n:Nat)(A':Option Addr)(P a Q d:List Nat)(w:World)(hblk:Blk w G 186 (U (P++(a++Q))))(hP:P.length=j)(hy:Lies w G A' (U d))(ha:Nt.Ok a)(hd:Nt.Ok d)(hla:a.length=n+1)(hld:d.length=n)(hc:n+1<=c)(hc':n<=c')(hm:c<=9223372036854775807)(hm':c'<=9223372036854775807)(hs:n<=1000000):
 Calls Tryz.prog 323 #[.slice (some ⟨G,j,none⟩) (n+1) c,.slice A' n c'] w λe w'=>∃(win:List Nat) (b:Nat),e= .returned (.tuple #[])/\Blk w' G 186 (U (P++(win++Q)))/\Hid (win.length=n+1/\Nt.Ok win/\Nt.val win+b*4294967296^(n+1)=Nt.val a+Nt.val d)/\w.grownBy w' (some G):=by
 subst hld;subst hP;rw[Cc,Cc] at hblk;have h:=Mv G c c' A' (U P) (U Q) a d w hblk hy ha hd hla hc hc' hm hm' hs;rw[Dc] at h;refine h.mono ?_;rintro e w' ⟨win,b,he,hblk',H,hg⟩;refine⟨win,b,he,by rw[Cc,Cc];exact hblk',Qd ⟨by rw[H.out.1,hla],H.out.2.1,H.out.2.2⟩,hg⟩
theorem Lw (G c c' j n:Nat)(A':Option Addr)(P a Q d:List Nat)(w:World)(hblk:Blk w G 186 (U (P++(a++Q))))(hP:P.length=j)(hy:Lies w G A' (U d))(ha:Nt.Ok a)(hd:Nt.Ok d)(hla:a.length=n+1)(hld:d.length=n)(hn:2<=n)(hs:n<=1000000)
 (h31:∀h:n-1<d.length,2147483648<=d[n-1]) (hlt:Nt.val a<4294967296*Nt.val d) (hc:n+1<=c) (hc':n<=c'):
 Calls Tryz.prog 321 #[.slice (some ⟨G,j,none⟩) (n+1) c,.slice A' n c'] w λe w'=>∃g:Nat,e= .returned (.int .u64 (g:Int))/\Hid (Nt.val a/Nt.val d<=g/\g<=Nt.val a/Nt.val d+1)/\g<4294967296/\∃k,w'=w.drewN k:=by
 have hg:=hblk.lt;refine Ss (some ⟨G,j,none⟩) A' c c' w.heap.size n a d w ?_ (hy.more (by omega)) ha hd hla hld hn hs h31 hlt hc hc';refine .inr ⟨G,j,rfl,hg,λi v hv=>?_⟩;rw[Cc,Cc] at hblk;refine hblk.cell ?_;rw[List.getElem?_append_right (by rw[Dc];omega),Dc,hP,Nat.add_sub_cancel_left,List.getElem?_append_left]
 ·exact hv
 rcases Nat.lt_or_ge i (U a).length with h |h
 ·exact h
 rw[List.getElem?_eq_none h] at hv;cases hv
theorem Fz {X D n k g b:Nat}{cur quo win:List Nat}(h:Nt.LongAt X D n cur quo (k+1))(hk:k<quo.length)(hD:0<D)
 (hg:Nt.val ((cur.drop k).take (n+1))/D<=g) (hg2:g<=Nt.val ((cur.drop k).take (n+1))/D+1) (hg3:g<4294967296)
 (hwl:win.length=n+1) (hwo:Nt.Ok win) (e:Nt.val win+g*D=Nt.val ((cur.drop k).take (n+1))+b*4294967296^(n+1)) (hb:b<=1):
 (b=0->Nt.LongAt X D n (cur.take k++(win++cur.drop (k+(n+1)))) (quo.set k g) k)/\
 (b=1->1<=g/\∀(win2:List Nat) (e':Nat),win2.length=n+1->Nt.Ok win2->Nt.val win2+e'*4294967296^(n+1)=Nt.val win+D->Nt.LongAt X D n (cur.take k++(win2++cur.drop (k+(n+1)))) (quo.set k (g-1)) k):=by
 obtain⟨w1,w2,w3,w4,w5,w6⟩:=h.window hk;have hR:=Nt.val_lt w2;rw[w1] at hR;have hV:=Nt.val_lt hwo;rw[hwl] at hV;have hDp:D<4294967296^(n+1):=by
  have:=h.hi;rw[Nat.pow_succ];omega
 obtain⟨r0,r1⟩:=Nt.round_ok hg hg2 hD hR hV e hb hDp;refine⟨λh0=>?_,λh1=>?_⟩
 ·obtain⟨_,a2,a3⟩:=r0 h0
  exact h.step hk hwl hwo hg3 a2 a3
 obtain⟨a1,a2⟩:=r1 h1;refine⟨by rw[a1];exact Nat.le_add_left _ _,λwin2 e' l2 o2 e2=>?_⟩;have hW:=Nt.val_lt o2;rw[l2] at hW;obtain⟨c1,c2⟩:=a2 _ e' hW e2;exact h.step hk l2 o2 (by omega) c1 c2
theorem Xt:Xl:=by
 intro A A' c c' B x y w hx hy hB hc hc' hm hm' hlx hly hyx;have hy0:y≠0:=by
  intro h;rw[h,Nt.digs_zero] at hly;simp at hly
 obtain⟨n,hnn⟩:∃n,n=(Nt.digs y).length:=⟨_,rfl⟩;obtain⟨m,hmm⟩:∃m,m=(Nt.digs x).length:=⟨_,rfl⟩;have hnm:n<=m:=by rw[hnn,hmm];exact Nt.digs_len_le_of hyx
 rw[<-hnn] at hc' hly⊢;rw[<-hmm] at hc hlx⊢;obtain⟨b2,o2,rfl,hb2,htop⟩:=hy.limb (k:=n-1) (by omega);have htne:(Nt.digs y)[n-1]'(by omega)≠0:=by
  have h:=Nt.top_digs y (by intro h;rw[h] at hnn;simp at hnn;omega);rw[List.getLast_eq_getElem] at h
  simpa [<-hnn] using h
 have htb:=Nt.ok_get (Nt.ok_digs y) (i:=n-1) (by omega);obtain⟨t,htt⟩:∃t,t=(Nt.digs y)[n-1]'(by omega):=⟨_,rfl⟩;rw[<-htt] at htop htne htb;obtain⟨hL,hL1,hlo,hhi⟩:=Nt.shift_of htne htb;obtain⟨s,hss⟩:∃s,s=32-Lib.bitLen t:=⟨_,rfl⟩;rw[<-hss] at hlo hhi;have hs32:s<32:=by omega
 have LZ:Hid (∀w,Calls Tryz.prog 319 #[.int .u32 (t:Int)] w λe w'=>e= .returned (.int .i64 (s:Int))/\w=w'):=Qd (λw=>(Tryz.bits_LeadingZeros32 (t:Int) w (by omega) (by omega)).mono (by
  rintro e w' ⟨rfl,rfl⟩;refine⟨Wa ?_,rfl⟩;rw[Int.toNat_natCast,hss];omega))
 have UB:=Qd (λw' (hw:Below B w w') (hB':B<=w'.heap.size)=>O0 (some ⟨b2,o2,none⟩) c' B s (Nt.digs y) w' (hy.below hw) hB' (Nt.ok_digs y) (by omega) hm' (by omega) hs32);have UA:=Qd (λw' (hw:Below B w w') (hB':B<=w'.heap.size)=>O0 A c B s (Nt.digs x) w' (hx.below hw) hB' (Nt.ok_digs x) (by omega) hm (by omega) hs32);rw[Nt.val_digs,<-hnn] at UB;rw[Nt.val_digs,<-hmm] at UA;have SC:Hid (∀cur:List Nat,Nt.Ok cur->cur.length=n+1->Nt.val cur=y*2^s->y*2^s<4294967296^n/\Nt.val (cur.take n)=y*2^s/\Nt.Ok (cur.take n)/\(cur.take n).length=n/\∀h:n-1<(cur.take n).length,2147483648<=(cur.take n)[n-1]):=Qd (by
  obtain⟨q,rfl⟩:∃q,n=q+1:=⟨n-1,by omega⟩;intro cur ok hl hv;exact Nt.div_scaled (y:=y) (s:=s) (m:=q) (t:=t) hnn.symm (by simpa using htt) (by omega) hlo hhi ok hl hv)
 have hxm:x<4294967296^m:=by have:=Nt.val_lt (Nt.ok_digs x);rwa[Nt.val_digs,<-hmm] at this
 have hyn:4294967296^(n-1)<=y:=by have:=Nt.digs_ge hy0;rwa[<-hnn] at this
 have ST:Hid (∀cur:List Nat,Nt.Ok cur->Nt.val cur=x*2^s->cur.length=m+1->y*2^s<4294967296^n->Nt.LongAt (x*2^s) (y*2^s) n cur (List.replicate (m-n+1) 0) (m-n+1)):=
  Qd (λcur ok hv hl hD=>Nt.LongAt.start ok hv hl hnm (by omega) hxm hyn hD)
 have hD0:Hid (0<y*2^s):=Qd (Nat.mul_pos (by omega) (Nat.two_pow_pos s));have HY0:0<y:=by omega
 obtain⟨i0,hi,hz0,hz1,hz2⟩:=info_parts Ob;clear hx hy hnn hmm htt hss hlo hhi hL hL1 hxm hyn hy0;go_enter Tryz.func284,Tryz.ntmps284
 go_wp2_with fail
 refine(LZ.out _).mono ?_;rintro e w' ⟨rfl,rfl⟩;go_wp2_with fail
 refine(UB.out w Br hB).mono ?_;rintro e w1 ⟨cd,rfl,hblkd,HD,hb1⟩;have hb1B:Below B w w1:=hb1.mono hB;have hsz1:=hb1.size;have hlt1:=hblkd.lt;go_wp2_with fail
 refine(UA.out w1 hb1B (by omega)).mono ?_;rintro e w2 ⟨cr,rfl,hblkr,HR,hb2'⟩;have hsz2:=hb2'.size;have hlt2:=hblkr.lt;have hb02:Below w.heap.size w w2:=hb1.trans (hb2'.mono hsz1);have hblkd2:=hblkd.keep hb2' hlt1;clear hblkd hb2';go_wp2_with (at_make;refine Hb _ rfl _ _ 83 rfl 186 i0 (.int .u32 0) Tryz.underlying83 hi hz0 hz1 rfl .i64 .i64 _ _ (m-n+1) (m-n+1) rfl rfl (by omega) (by omega) Lr (by rw[hz2];omega) (by omega) w.heap.size w hb02 (by omega) ?_;intro w3 hblkq hb03 hb23 hlt3)
 have hblkr3:=hblkr.keep hb23 hlt2;have hblkd3:=hblkd2.keep hb23 (by omega);have hblkq3:Blk w3 w2.heap.size 186 (U (List.replicate (m-n+1) 0)):=by simpa [U] using hblkq
 clear hblkr hblkd2 hblkq hb23;obtain⟨hDn,hvd,hod,hld,h31⟩:=SC.out cd HD.out.1 HD.out.2.1 HD.out.2.2;have hS0:=Qd (ST.out cr HR.out.1 HR.out.2.2 HR.out.2.1 hDn);have HHD:=Qd (And.intro hvd (And.intro hod (And.intro hld h31)));have HCD:=Qd HD.out.2.1;clear HD HR SC ST UA UB LZ hDn hvd hod hld h31;go_loopw [11,12] (λi gv wr=>∃(k:Nat) (cur quo:List Nat),k<=m-n+1/\i= .int .i64 ((k:Int)-1)/\Blk wr w1.heap.size 186 (U cur)/\Blk wr w2.heap.size 186 (U quo)/\Blk wr w.heap.size 186 (U cd)/\Below w.heap.size w wr/\Hid (quo.length=m-n+1/\Nt.LongAt (x*2^s) (y*2^s) n cur quo k)) (λi _ _=>(intOf i+1).toNat)
 case atStart=>exact⟨m-n+1,cr,_,Lr,congrArg (Value.int .i64) (by omega),hblkr3,hblkq3,hblkd3,hb03,Qd ⟨by simp,hS0.out⟩⟩
 case round=>
  clear hblkr3 hblkq3 hblkd3 hb03 hS0;obtain⟨k,cur,quo,hk,rfl,hbr,hbq,hbd,hbel,H⟩:=hrel;rcases k with _ |k
  ·obtain⟨hql,HL⟩:=H.out
   obtain⟨hdq,hdr⟩:=HL.done HY0;have hcl:cur.length=m+1:=by have:=HL.len;rw[hql] at this;omega
   have hltq:=hbq.lt;have TR:Hid (∀wx:World,Blk wx w2.heap.size 186 (U quo)->Calls Tryz.prog 165 #[.slice (some ⟨w2.heap.size,0,none⟩) (m-n+1) (m-n+1)] wx λe w'=>e= .returned (.slice (some ⟨w2.heap.size,0,none⟩) (Nt.digs (x/y)).length (Nt.digs (x/y)).length)/\wx=w'):=Qd (λwx hbx=>by
    have h:=Wb (some ⟨w2.heap.size,0,none⟩) (m-n+1) wx.heap.size quo wx hbx.lies HL.okq (by omega) (by omega);rw[hql,hdq] at h;exact h)
   have hlr:Lies wr wr.heap.size (some ⟨w1.heap.size,0,none⟩) (U (cur.take n)):=by rw[<-Hh];exact hbr.lies.take n
   have DN:=P5 (some ⟨w1.heap.size,0,none⟩) (m+1) wr.heap.size s (cur.take n) wr.drew hlr Lr (Nt.ok_take HL.ok n) (by rw[List.length_take];omega) (by omega) (by rw[List.length_take];omega) hs32;rw[hdr,List.length_take,hcl,Nat.min_eq_left (show n<=m+1 by omega)] at DN;have DNH:=Qd DN;have HQI:Hid (∀wx:World,Blk wx w2.heap.size 186 (U quo)->IsRes wx (.slice (some ⟨w2.heap.size,0,none⟩) (Nt.digs (x/y)).length (Nt.digs (x/y)).length) (Nt.digs (x/y))):=Qd (λwx hbx=>by
    have h:=hbx.lies.digs HL.okq;have h2:=Nt.digs_len_le HL.okq;rw[hdq] at h h2;rw[hql] at h2;exact⟨_,_,rfl,Lr,by omega,(λh=>by cases h),h⟩)
   have HBQ:=Qd hbq;clear hql HL hdq hdr hcl hlr DN H hbr hbd hbq;have hn1:n<=m+1:=by omega
   go_wp2_with fail
   go_region_with (first
    |(go_at_call 165;refine(TR.out _ (by first|exact HBQ.out |exact HBQ5.out)).mono ?_;rintro e w' ⟨rfl,rfl⟩)
    |(go_at_call 324;refine DNH.out.mono ?_;rintro e w5 ⟨vd,rfl,hres5,hb5⟩;have hbel5:Below wr.heap.size wr w5:=⟨hb5.os,hb5.tape,hb5.output,hb5.size,hb5.block⟩;clear hb5;have HBQ5:=Qd (HBQ.out.keep hbel5 hltq)))
   all_goals
    go_wp2_with fail
    go_ret2
    exact⟨_,_,rfl,HQI.out _ HBQ5.out,hres5,hbel.trans (hbel5.mono hbel.size)⟩
  have hk1:((k+1:Nat):Int)-1=(k:Int):=by omega
  rw[hk1];clear hk1;have hkq:k<quo.length:=by rw[H.out.1];omega
  obtain⟨v1,v2,v3,v4,v5,v6⟩:=H.out.2.window hkq;have hcl:cur.length=m+1:=by have:=H.out.2.len;rw[H.out.1] at this;omega
  have hbr':Blk wr w1.heap.size 186 (U (cur.take k++((cur.drop k).take (n+1)++cur.drop (k+(n+1))))):=by rw[<-v5];exact hbr
  have hld:Lies wr w1.heap.size (some ⟨w.heap.size,0,none⟩) (U (cd.take n)):=by
   rw[<-Hh];refine Lies.take ?_ n;refine .inr ⟨w.heap.size,0,rfl,by omega,λi v hv=>?_⟩;rw[Nat.zero_add];exact hbd.cell hv
  have ES:=Qd (Lw w1.heap.size (m+1-k) (n+1) k n (some ⟨w.heap.size,0,none⟩) (cur.take k) ((cur.drop k).take (n+1)) (cur.drop (k+(n+1))) (cd.take n) wr hbr' v6 hld v2 HHD.out.2.1 v1 HHD.out.2.2.1 hly (by omega) HHD.out.2.2.2 (by rw[HHD.out.1];exact v3) (by omega) (by omega));have TK:=Qd (λ(g j:Nat) (hg:g<4294967296)=>Dz w1.heap.size (m+1-k) (n+1) g k n (some ⟨w.heap.size,0,none⟩) (cur.take k) ((cur.drop k).take (n+1)) (cur.drop (k+(n+1))) (cd.take n) (wr.drewN j) hbr' v6 hld v2 HHD.out.2.1 v1 HHD.out.2.2.1 (by omega) (by omega) (by omega) (by omega) hg (by omega));have LR:=Qd (λg b win=>Fz (g:=g) (b:=b) (win:=win) H.out.2 hkq hD0.out);rw[HHD.out.1] at ES TK;have V6:=Qd v6;have HQL:=Qd H.out.1;have hkm:k+n<m+1:=by omega
  have hkc:k<m+1:=by omega
  clear v1 v2 v3 v4 v5 v6 hcl hbr' hbr H;generalize Nt.val ((cur.drop k).take (n+1))=R at*;have hwl:k+n+1-k=n+1:=by omega
  go_wp2_with fail
  refine ES.out.mono ?_;rintro e w' ⟨g,rfl,HG,hg3,j,rfl⟩;have TKg:=Qd (TK.out g j hg3);clear TK ES;go_wp2_with fail
  refine TKg.out.mono ?_;rintro e w4 ⟨win,b,rfl,hb1,hbr4,HW,hgr4⟩;have hgr:wr.grownBy w4 (some w1.heap.size):=⟨hgr4.os,hgr4.tape,hgr4.output,hgr4.size,hgr4.block⟩;have hbq4:=hbq.grown hgr (by intro h;injection h with h;omega);have hbd4:=hbd.grown hgr (by intro h;injection h with h;omega);have hbel4:Below w.heap.size w w4:=hbel.grown hgr hbel.size (λk hk=>by injection hk with hk;omega);have hR:=LR.out g b win HG.out.1 HG.out.2 hg3 HW.out.1 HW.out.2.1 HW.out.2.2 hb1;have hsz4:=hbel4.size;have hltq:=hbq4.lt;clear hgr hgr4 hbq hbd hbel TKg LR;rcases(show b=0\/b=1 by omega) with rfl |rfl
  ·have HN:=Qd (hR.1 rfl)
   clear hR;have hcell:w4.cell? ⟨w2.heap.size,k,none⟩=some (.int .u32 ((quo[k]:Nat):Int)):=hbq4.cell (by rw[U,List.getElem?_map,List.getElem?_eq_getElem (by omega)];rfl);have hfz:=hbq4.frozen k;generalize quo[k]=o at hcell;have BS:Hid (Blk (w4.setCell ⟨w2.heap.size,k,none⟩ (.int .u32 (g:Int))) w2.heap.size 186 (U (quo.set k g))):=Qd (by
    have:=hbq4.set_ k (.int .u32 (g:Int));rw[show(U quo).set k (.int .u32 (g:Int))=U (quo.set k g) from List.map_set.symm] at this;exact this)
   have BR:=Qd (hbr4.far (p:=⟨w2.heap.size,k,none⟩) (by show w1.heap.size≠w2.heap.size;omega) (.int .u32 (g:Int)));have BD:=Qd (hbd4.far (p:=⟨w2.heap.size,k,none⟩) (by show w.heap.size≠w2.heap.size;omega) (.int .u32 (g:Int)));clear hbr4 hbd4 hbq4;rw[show decide ((0:Nat)=1)=false from rfl];go_wp2_with fail
   refine⟨⟨k,_,_,by omega,by go_num,BR.out,BS.out,BD.out,hbel4.setCell (by show w.heap.size<=w2.heap.size;omega) _,Qd ⟨by rw[List.length_set];exact HQL.out,HN.out⟩⟩,by simp[intOf];try omega⟩
  obtain⟨hg1,hN⟩:=hR.2 rfl;have HN:=Qd hN;clear hR hN;have hld4:Lies w4 w1.heap.size (some ⟨w.heap.size,0,none⟩) (U (cd.take n)):=by
   rw[<-Hh];refine Lies.take ?_ n;refine .inr ⟨w.heap.size,0,rfl,by omega,λi v hv=>?_⟩;rw[Nat.zero_add];exact hbd4.cell hv
  have PB:=Qd (Ez w1.heap.size (m+1-k) (n+1) k n (some ⟨w.heap.size,0,none⟩) (cur.take k) win (cur.drop (k+(n+1))) (cd.take n) w4 hbr4 V6.out hld4 HW.out.2.1 HHD.out.2.1 HW.out.1 HHD.out.2.2.1 (by omega) (by omega) (by omega) (by omega) (by omega));rw[HHD.out.1] at PB;clear hbr4 hld4;rw[show decide ((1:Nat)=1)=true from rfl];go_wp2_with fail
  refine PB.out.mono ?_;rintro e w5 ⟨win2,b',rfl,hbr5,HW2,hgr⟩;have hbq5:=hbq4.grown hgr (by intro h;injection h with h;omega);have hbd5:=hbd4.grown hgr (by intro h;injection h with h;omega);have hbel5:Below w.heap.size w w5:=hbel4.grown hgr hbel4.size (λk hk=>by injection hk with hk;omega);have hsz5:=hbel5.size;have hltq5:=hbq5.lt;clear hgr hbq4 hbd4 hbel4 PB;have HN2:=Qd (HN.out win2 b' HW2.out.1 HW2.out.2.1 HW2.out.2.2);have hcell:w5.cell? ⟨w2.heap.size,k,none⟩=some (.int .u32 ((quo[k]:Nat):Int)):=hbq5.cell (by rw[U,List.getElem?_map,List.getElem?_eq_getElem (by omega)];rfl);have hfz:=hbq5.frozen k;generalize quo[k]=o at hcell;have BS:Hid (Blk (w5.setCell ⟨w2.heap.size,k,none⟩ (.int .u32 ((g-1:Nat):Int))) w2.heap.size 186 (U (quo.set k (g-1)))):=Qd (by
   have:=hbq5.set_ k (.int .u32 ((g-1:Nat):Int));rw[show(U quo).set k (.int .u32 ((g-1:Nat):Int))=U (quo.set k (g-1)) from List.map_set.symm] at this;exact this)
  have BR:=Qd (hbr5.far (p:=⟨w2.heap.size,k,none⟩) (by show w1.heap.size≠w2.heap.size;omega) (.int .u32 ((g-1:Nat):Int)));have BD:=Qd (hbd5.far (p:=⟨w2.heap.size,k,none⟩) (by show w.heap.size≠w2.heap.size;omega) (.int .u32 ((g-1:Nat):Int)));have e1:((g-1:Nat):Int)=(g:Int)-1:=by omega
  rw[e1] at BS BR BD;clear hbr5 hbd5 hbq5 e1;go_wp2_with fail
  refine⟨⟨k,_,_,by omega,by go_num,BR.out,BS.out,BD.out,hbel5.setCell (by show w.heap.size<=w2.heap.size;omega) _,Qd ⟨by rw[List.length_set];exact HQL.out,HN2.out⟩⟩,by simp[intOf];try omega⟩
section
open Go.RowKit
section
variable {w0 w : World} {v1 v2 : Value} {l1 l2 : List Nat}
theorem Gz (h1:IsRes w v1 l1)(h2:IsRes w v2 l2)(o1:Nt.Ok l1)(o2:Nt.Ok l2)(s1:l1.length<=1000000)(s2:l2.length<=1000000)(hb:Below w0.heap.size w0 w):
 Calls Tryz.prog 226 #[v1,v2] w λe w'=>∃u1 u2,e= .returned (.tuple #[u1,u2,.bool (decide (Nt.val l2≠0))])/\IsRes w' u1 (Nt.digs (Nt.quo (Nt.val l1) (Nt.val l2)))/\IsRes w' u2 (Nt.digs (Nt.rest (Nt.val l1) (Nt.val l2)))/\Below w0.heap.size w0 w'/\Below w.heap.size w w':=by
 obtain⟨A,c,rfl,a1,a2,a3,a4⟩:=h1;obtain⟨A',c',rfl,b1,b2,b3,b4⟩:=h2;refine(Um A A' c c' w.heap.size l1 l2 w a4 b4 Lr o1 o2 a1 b1 a2 b2 s1 s2 (.inr Xt)).mono ?_;rintro e w' ⟨u1,u2,rfl,r1,r2,hb'⟩;exact⟨u1,u2,rfl,r1,r2,hb.trans (hb'.mono hb.size),hb'⟩
theorem B7 (h1:IsRes w v1 l1)(o1:Nt.Ok l1)(s1:l1.length<=1000000)(hb:Below w0.heap.size w0 w):
 Calls Tryz.prog 163 #[v1] w λe w'=>∃v,e= .returned v/\IsRes w' v (Nt.digs (Nt.val l1))/\Below w0.heap.size w0 w'/\Below w.heap.size w w':=by
 have hd:=Nt.digs_len_le o1;obtain⟨A,c,rfl,a1,a2,a3,a4⟩:=h1;refine(Pd A c w.heap.size l1 w a4 Lr o1 a1 a2 (by omega)).mono ?_;rintro e w' ⟨rfl,r,hb'⟩;exact⟨_,rfl,⟨_,_,rfl,Lr,by omega,(λh=>by cases h),r.lies⟩,hb.trans (hb'.mono hb.size),hb'⟩
end
end
theorem Qx (A A':Option Addr)(c c':Nat)(a b:List Nat)(w:World)(hx:IsRes w (.slice A a.length c) a)(hy:IsRes w (.slice A' b.length c') b)(ha:Nt.Ok a)(hb:Nt.Ok b)(hs:a.length<=1000000)(hs':b.length<=1000000):
 Calls Tryz.prog 206 #[.slice A a.length c,.slice A' b.length c'] w λe w'=>∃v,e= .returned v/\IsRes w' v (Nt.digs (Nat.gcd (Nt.val a) (Nt.val b)))/\Below w.heap.size w w':=by
 have ha':=Nt.digs_len_le ha;have hb':=Nt.digs_len_le hb;obtain⟨_,_,e1,a1,a2,a3,a4⟩:=hx;obtain⟨_,_,e2,b1,b2,b3,b4⟩:=hy;injection e1 with e1 _ e1';subst e1 e1'
 injection e2 with e2 _ e2';subst e2 e2'
 have TA:=Qd (Wb A c w.heap.size a w a4 ha a1 a2);have TB:=Qd (Wb A' c' w.heap.size b w b4 hb b1 b2);have RA:Hid (∀A',A'=A->IsRes w (.slice A (Nt.digs (Nt.val a)).length (Nt.digs (Nt.val a)).length) (Nt.digs (Nt.val a))):=Qd (λ_ _=>⟨A,_,rfl,Lr,by omega,(λh=>by have:=a3 h;omega),a4.digs ha⟩);have RB:Hid (IsRes w (.slice A' (Nt.digs (Nt.val b)).length (Nt.digs (Nt.val b)).length) (Nt.digs (Nt.val b))):=Qd ⟨A',_,rfl,Lr,by omega,(λh=>by have:=b3 h;omega),b4.digs hb⟩;clear a1 a2 a3 a4 b1 b2 b3 b4 ha hb;have hla:(Nt.digs (Nt.val a)).length<=1000000:=by omega
 have hlb:(Nt.digs (Nt.val b)).length<=1000000:=by omega
 clear ha' hb' hs hs';obtain⟨x0,hx0⟩:∃x,x=Nt.val a:=⟨_,rfl⟩;obtain⟨y0,hy0⟩:∃y,y=Nt.val b:=⟨_,rfl⟩;rw[<-hx0] at TA RA hla⊢;rw[<-hy0] at TB RB hlb⊢;clear hx0 hy0;go_enter Tryz.func206,Tryz.ntmps206
 go_wp2_with fail
 refine TA.out.mono ?_;rintro e w' ⟨rfl,rfl⟩;go_wp2_with fail
 refine TB.out.mono ?_;rintro e w' ⟨rfl,rfl⟩;go_wp2_with fail
 go_loopg [0,1] y0 (λgk av bv wr=>∃(A A':Option Addr) (c c' x y:Nat),av= .slice A (Nt.digs x).length c/\bv= .slice A' (Nt.digs y).length c'/\y<=gk/\Hid (IsRes wr (.slice A (Nt.digs x).length c) (Nt.digs x)/\IsRes wr (.slice A' (Nt.digs y).length c') (Nt.digs y))/\(Nt.digs x).length<=1000000/\(Nt.digs y).length<=1000000/\Hid (Nat.gcd x y=Nat.gcd x0 y0)/\Below w.heap.size w wr)
 case atStart=>exact⟨_,_,_,_,x0,y0,rfl,rfl,Lr,Qd ⟨RA.out _ rfl,RB.out⟩,hla,hlb,Qd rfl,Br⟩
 case round=>
  clear TA TB RA RB hla hlb;obtain⟨P,P',k,k',x,y,rfl,rfl,hyk,HR,hlx,hly,HG,hbel⟩:=hrel;by_cases h0:y=0
  ·subst h0
   have HZ:Hid ((Nt.digs 0).length=0):=Qd (by rw[Nt.digs_zero];rfl);have NA:=Qd (B7 (w0:=w) HR.out.1 (Nt.ok_digs x) hlx hbel);have HE:Hid (Nat.gcd x0 y0=x):=Qd (by rw[<-HG.out,Nat.gcd_zero_right]);rw[Nt.val_digs] at NA;rw[HZ.out];clear HR HG;go_wp2_with fail
   refine NA.out.mono ?_;rintro e w1 ⟨v,rfl,hr,hb1,_⟩;go_wp2_with fail
   go_ret;exact⟨_,rfl,by rw[HE.out];exact hr,hb1⟩
  have hlp:0<(Nt.digs y).length:=by
   rcases Nat.eq_zero_or_pos (Nt.digs y).length with h |h
   ·exact absurd (Nt.digs_nil_iff.1 (List.eq_nil_of_length_eq_zero h)) h0
   exact h
  by_cases h2:(Nt.digs x).length<=2/\(Nt.digs y).length<=2
  ·obtain⟨h2x,h2y⟩:=h2
   obtain⟨⟨_,_,e1,a1,a2,a3,a4⟩,⟨_,_,e2,b1,b2,b3,b4⟩⟩:=HR.out;injection e1 with e1 _ e1';subst e1 e1'
   injection e2 with e2 _ e2';subst e2 e2'
   have WA:=Qd (Ts P k wr.heap.size (Nt.digs x) wr a4 (Nt.ok_digs x) h2x);have WB:=Qd (Ts P' k' wr.heap.size (Nt.digs y) wr b4 (Nt.ok_digs y) h2y);rw[Nt.val_digs] at WA WB;have hxa:x<18446744073709551616:=by
    have h:=Nt.val_lt (Nt.ok_digs x);rw[Nt.val_digs] at h;exact Nat.lt_of_lt_of_le h (Nat.le_trans (Nat.pow_le_pow_right (by omega) h2x) (by decide))
   have hxb:y<18446744073709551616:=by
    have h:=Nt.val_lt (Nt.ok_digs y);rw[Nt.val_digs] at h;exact Nat.lt_of_lt_of_le h (Nat.le_trans (Nat.pow_le_pow_right (by omega) h2y) (by decide))
   clear HR a1 a2 a3 a4 b1 b2 b3 b4;go_wp2_with fail
   refine WA.out.mono ?_;rintro e w' ⟨rfl,rfl⟩;go_wp2_with fail
   refine WB.out.mono ?_;rintro e w' ⟨rfl,rfl⟩;go_wp2_with fail
   refine(U0 x y _ hxa hxb).mono ?_;rintro e w1 ⟨v,rfl,hr,hb1⟩;go_wp2_with fail
   go_ret;exact⟨_,rfl,by rw[<-HG.out];exact hr,hbel.trans (hb1.mono hbel.size)⟩
  have DM:=Qd (Gz (w0:=w) HR.out.1 HR.out.2 (Nt.ok_digs x) (Nt.ok_digs y) hlx hly hbel);rw[Nt.val_digs,Nt.val_digs,Nt.rest_pos h0] at DM;have hyp:x%y<y:=Nat.mod_lt _ (by omega);have hlr:(Nt.digs (x%y)).length<=1000000:=by
   have h:=Nt.digs_len_le_of (Nat.le_of_lt hyp);omega
  have HG2:Hid (Nat.gcd y (x%y)=Nat.gcd x0 y0):=Qd (by rw[Nt.gcd_step];exact HG.out);have HRY:=Qd HR.out.2;clear HR HG h0;obtain⟨r,hr⟩:∃r,r=x%y:=⟨_,rfl⟩;rw[<-hr] at DM hyp hlr HG2;clear hr;by_cases h2x:(Nt.digs x).length<=2
  ·have h2y:¬(Nt.digs y).length<=2:=λh=>h2 ⟨h2x,h⟩
   clear h2;go_wp2_with fail
   refine DM.out.mono ?_;rintro e w1 ⟨u1,u2,rfl,hr1,hr2,hb1,hb01⟩;have hry:=HRY.out.below hb01;obtain⟨A2,c2,rfl,q1,q2,q3,q4⟩:=hr2;have hr2':IsRes w1 (.slice A2 (Nt.digs r).length c2) (Nt.digs r):=⟨A2,c2,rfl,q1,q2,q3,q4⟩;clear q1 q2 q3 q4 hr1 hb01 HRY DM;have HRN:=Qd (And.intro hry hr2');clear hry hr2';go_wp2_with fail
   go_roundg r
   case measure=>omega
   case rel=>exact⟨_,_,_,_,y,r,rfl,rfl,Lr,HRN,hly,hlr,HG2,hb1⟩
  clear h2;go_wp2_with fail
  refine DM.out.mono ?_;rintro e w1 ⟨u1,u2,rfl,hr1,hr2,hb1,hb01⟩;have hry:=HRY.out.below hb01;obtain⟨A2,c2,rfl,q1,q2,q3,q4⟩:=hr2;have hr2':IsRes w1 (.slice A2 (Nt.digs r).length c2) (Nt.digs r):=⟨A2,c2,rfl,q1,q2,q3,q4⟩;clear q1 q2 q3 q4 hr1 hb01 HRY DM;have HRN:=Qd (And.intro hry hr2');clear hry hr2';go_wp2_with fail
  go_roundg r
  case measure=>omega
  case rel=>exact⟨_,_,_,_,y,r,rfl,rfl,Lr,HRN,hly,hlr,HG2,hb1⟩
end Go.Proofs.YtogjgbmngagimaaGreatDoor
