/- Texts of this proof, joined. -/
import Derived.Test.YtceplkpjnebnfaaGreatDoorM9
import Derived.Shelf.Strings.Builder1
import Derived.Shelf.Strings.Builder2
import Derived.Shelf.Strings.Trim
import Derived.Shelf.Small.Utf8
import Derived.Shelf.Small.Bits
import Derived.Shelf.Small.Strs
import Derived.Shelf.Small.Wraps
import Derived.Shelf.Strings.BuilderF
import Derived.Shelf.Utf8.AppendRune
import Derived.Shelf.Utf8.AppendRunePlain
import Derived.Shelf.Strconv.Itoa0
import Derived.Shelf.Strconv.Itoa1
import Derived.Shelf.LaysM
import Derived.Shelf.Strconv.Itoa2
import Derived.Shelf.Strings.Search1
import Derived.Shelf.Strings.Prefix
import Derived.Shelf.Strings.Runes
import Derived.Shelf.Strings.AsciiSet
import Derived.Shelf.Bits.Mul64
import Derived.Shelf.Strings.Repeat
import Derived.Shelf.Unicode.DecodeSlow
import Derived.Lib.Walk
import Derived.BigCall
import Derived.BigGuard
import Derived.Lib.OthersKept
import Derived.Lib.RuneBytes
import Derived.Laws.BytesString
import Derived.Laws.IdiomStrings
import Derived.Deep.Cut
import Derived.Deep.RegionWith
set_option linter.all false
set_option maxHeartbeats 8000000
set_option maxRecDepth 100000
namespace Go.Proofs
open Go.Shelf
def Tryz.lays169_ren:Go.Shelf.Ren:=⟨λ | 169=>22 |n=>n,λ | 70=>39 | 9=>9 | 0=>0 | 72=>42 | 37=>40 | 127=>75 | 3=>3 | 5=>5 |n=>n,λ |n=>n⟩
theorem Tryz.lays169:Go.Proofs.Lays.n169 Tryz.prog Tryz.lays169_ren:={
 mixed:=by kernel_rfl
 f169:=Tryz.func22.trans (congrArg some (by kernel_rfl))
 t0:=Tryz.underlying0
 a0:=Tryz.isAgg0
 z0:=Tryz.sizeOf0
 v0:=Tryz.zeroValue0
 t3:=Tryz.underlying3
 a3:=Tryz.isAgg3
 z3:=Tryz.sizeOf3
 v3:=Tryz.zeroValue3
 t9:=Tryz.underlying9
 a9:=Tryz.isAgg9
 z9:=Tryz.sizeOf9
 v9:=Tryz.zeroValue9
 t37:=Tryz.underlying40
 a37:=Tryz.isAgg40
 z37:=Tryz.sizeOf40
 v37:=Tryz.zeroValue40
 t70:=Tryz.underlying39
 a70:=Tryz.isAgg39
 z70:=Tryz.sizeOf39
 v70:=Tryz.zeroValue39
 t72:=Tryz.underlying42
 a72:=Tryz.isAgg42
 z72:=Tryz.sizeOf42
 v72:=Tryz.zeroValue42
 t127:=Tryz.underlying75
 a127:=Tryz.isAgg75
 z127:=Tryz.sizeOf75
 v127:=Tryz.zeroValue75}
theorem Tryz.Builder_Extra_169:Builder.Extra Tryz.prog Tryz.lays169_ren:={
 sizeBuilder:=by kernel_rfl
 liesBuilder:=by kernel_rfl
 t5:=Tryz.underlying5
 a5:=Tryz.isAgg5
 z5:=Tryz.sizeOf5
 v5:=Tryz.zeroValue5
 infoByte:=by kernel_rfl
 cellsByte:=by kernel_rfl
 sizeByte:=by kernel_rfl
 neB5:=by decide}
open Go.RowKit in
theorem Tryz.Builder_String_any (B b:Nat)(l:List UInt8)(w:World)(h:Lib.IsBuilder 42 5 B b (Lib.byteCells l) w)(hBw:B<=w.heap.size):
 Calls Tryz.prog 22 #[.pointer (some ⟨b,0,none⟩)] w λe w'=>e= .returned (.string ⟨l.toArray⟩)/\Below B w w':=Any.Builder_String_any Tryz.lays169 Tryz.Builder_Extra_169 B b l w h hBw
def Tryz.lays161_ren:Go.Shelf.Ren:=⟨λ | 161=>192 | 231=>205 | 227=>206 | 233=>207 | 235=>208 | 228=>222 | 197=>223 | 151=>224 | 260=>229 | 152=>230 | 137=>231 | 119=>232 | 224=>233 | 225=>234 | 217=>235 | 266=>236 |n=>n,λ | 9=>9 | 4=>4 | 3=>3 | 5=>5 | 117=>173 | 116=>172 | 0=>0 | 124=>176 | 105=>189 | 21=>21 | 119=>196 | 46=>132 | 139=>199 | 138=>198 |n=>n,λ | 3=>4 | 4=>5 |n=>n⟩
theorem Tryz.lays161:Go.Proofs.Lays.n161 Tryz.prog Tryz.lays161_ren:={
 mixed:=by kernel_rfl
 f119:=Tryz.func232.trans (congrArg some (by kernel_rfl))
 f137:=Tryz.func231.trans (congrArg some (by kernel_rfl))
 f151:=Tryz.func224.trans (congrArg some (by kernel_rfl))
 f152:=Tryz.func230.trans (congrArg some (by kernel_rfl))
 f161:=Tryz.func192.trans (congrArg some (by kernel_rfl))
 f197:=Tryz.func223.trans (congrArg some (by kernel_rfl))
 f217:=Tryz.func235.trans (congrArg some (by kernel_rfl))
 f224:=Tryz.func233.trans (congrArg some (by kernel_rfl))
 f225:=Tryz.func234.trans (congrArg some (by kernel_rfl))
 f227:=Tryz.func206.trans (congrArg some (by kernel_rfl))
 f228:=Tryz.func222.trans (congrArg some (by kernel_rfl))
 f231:=Tryz.func205.trans (congrArg some (by kernel_rfl))
 f233:=Tryz.func207.trans (congrArg some (by kernel_rfl))
 f235:=Tryz.func208.trans (congrArg some (by kernel_rfl))
 f260:=Tryz.func229.trans (congrArg some (by kernel_rfl))
 f266:=Tryz.func236.trans (congrArg some (by kernel_rfl))
 t0:=Tryz.underlying0
 a0:=Tryz.isAgg0
 z0:=Tryz.sizeOf0
 v0:=Tryz.zeroValue0
 t3:=Tryz.underlying3
 a3:=Tryz.isAgg3
 z3:=Tryz.sizeOf3
 v3:=Tryz.zeroValue3
 t4:=Tryz.underlying4
 a4:=Tryz.isAgg4
 z4:=Tryz.sizeOf4
 v4:=Tryz.zeroValue4
 t5:=Tryz.underlying5
 a5:=Tryz.isAgg5
 z5:=Tryz.sizeOf5
 v5:=Tryz.zeroValue5
 t9:=Tryz.underlying9
 a9:=Tryz.isAgg9
 z9:=Tryz.sizeOf9
 v9:=Tryz.zeroValue9
 t21:=Tryz.underlying21
 a21:=Tryz.isAgg21
 z21:=Tryz.sizeOf21
 v21:=Tryz.zeroValue21
 t46:=Tryz.underlying132
 a46:=Tryz.isAgg132
 z46:=Tryz.sizeOf132
 v46:=Tryz.zeroValue132
 t105:=Tryz.underlying189
 a105:=Tryz.isAgg189
 z105:=Tryz.sizeOf189
 v105:=Tryz.zeroValue189
 t116:=Tryz.underlying172
 a116:=Tryz.isAgg172
 z116:=Tryz.sizeOf172
 t117:=Tryz.underlying173
 a117:=Tryz.isAgg173
 z117:=Tryz.sizeOf173
 v117:=Tryz.zeroValue173
 t119:=Tryz.underlying196
 a119:=Tryz.isAgg196
 z119:=Tryz.sizeOf196
 t124:=Tryz.underlying176
 a124:=Tryz.isAgg176
 z124:=Tryz.sizeOf176
 v124:=Tryz.zeroValue176
 t138:=Tryz.underlying198
 a138:=Tryz.isAgg198
 z138:=Tryz.sizeOf198
 v138:=Tryz.zeroValue198
 t139:=Tryz.underlying199
 a139:=Tryz.isAgg199
 z139:=Tryz.sizeOf199
 v139:=Tryz.zeroValue199
 g3:=by kernel_rfl
 g4:=by kernel_rfl}
open Go.RowKit in
theorem Tryz.strings_TrimLeft_one (s:ByteArray)(c:UInt8)(hc:c.toNat<128)(w:World):
 Calls Tryz.prog 192 #[.string s,.string ⟨#[c]⟩] w λe w'=>e= .returned (.string ⟨(Lib.trimLeftB s.data.toList c).toArray⟩)/\w'=w:=Any.strings_TrimLeft_one Tryz.lays161 s c hc w
def Tryz.lays133_ren:Go.Shelf.Ren:=⟨λ | 133=>214 | 128=>226 |n=>n,λ | 51=>90 | 3=>3 | 4=>4 | 46=>132 | 5=>5 | 9=>9 |n=>n,λ |n=>n⟩
theorem Tryz.lays133:Go.Proofs.Lays.n133 Tryz.prog Tryz.lays133_ren:={
 mixed:=by kernel_rfl
 f128:=Tryz.func226.trans (congrArg some (by kernel_rfl))
 f133:=Tryz.func214.trans (congrArg some (by kernel_rfl))
 t3:=Tryz.underlying3
 a3:=Tryz.isAgg3
 z3:=Tryz.sizeOf3
 v3:=Tryz.zeroValue3
 t4:=Tryz.underlying4
 a4:=Tryz.isAgg4
 z4:=Tryz.sizeOf4
 v4:=Tryz.zeroValue4
 t5:=Tryz.underlying5
 a5:=Tryz.isAgg5
 z5:=Tryz.sizeOf5
 v5:=Tryz.zeroValue5
 t9:=Tryz.underlying9
 a9:=Tryz.isAgg9
 z9:=Tryz.sizeOf9
 v9:=Tryz.zeroValue9
 t46:=Tryz.underlying132
 a46:=Tryz.isAgg132
 z46:=Tryz.sizeOf132
 v46:=Tryz.zeroValue132
 t51:=Tryz.underlying90
 a51:=Tryz.isAgg90
 z51:=Tryz.sizeOf90
 v51:=Tryz.zeroValue90}
theorem Tryz.bits_LeadingZeros32 (x:Int)(w:World)(h0:0<=x)(h1:x<=4294967295):
 Calls Tryz.prog 214 #[.int .u32 x] w λe w'=>e= .returned (.int .i64 (32-(Lib.bitLen x.toNat:Int)))/\w'=w:=Any.bits_LeadingZeros32 Tryz.lays133 x w h0 h1
def Tryz.lays103_ren:Go.Shelf.Ren:=⟨λ | 103=>164 | 210=>191 | 206=>89 |n=>n,λ | 9=>9 | 4=>4 | 24=>96 | 3=>3 |n=>n,λ |n=>n⟩
theorem Tryz.lays103:Go.Proofs.Lays.n103 Tryz.prog Tryz.lays103_ren:={
 mixed:=by kernel_rfl
 f103:=Tryz.func164.trans (congrArg some (by kernel_rfl))
 f206:=Tryz.func89.trans (congrArg some (by kernel_rfl))
 f210:=Tryz.func191.trans (congrArg some (by kernel_rfl))
 t3:=Tryz.underlying3
 a3:=Tryz.isAgg3
 z3:=Tryz.sizeOf3
 v3:=Tryz.zeroValue3
 t4:=Tryz.underlying4
 a4:=Tryz.isAgg4
 z4:=Tryz.sizeOf4
 v4:=Tryz.zeroValue4
 t9:=Tryz.underlying9
 a9:=Tryz.isAgg9
 z9:=Tryz.sizeOf9
 v9:=Tryz.zeroValue9
 t24:=Tryz.underlying96
 a24:=Tryz.isAgg96
 z24:=Tryz.sizeOf96
 v24:=Tryz.zeroValue96}
open Go.RowKit in
theorem Tryz.strings_CutPrefix (s p:ByteArray)(w:World):
 Calls Tryz.prog 164 #[.string s,.string p] w λe w'=>e= .returned (.tuple #[.string ⟨(Lib.trimPrefix s.data.toList p.data.toList).toArray⟩,.bool (Lib.hasPrefix s.data.toList p.data.toList)])/\w'=w:=Any.strings_CutPrefix Tryz.lays103 s p w
open Go.RowKit in
theorem Tryz.Builder_String_any_k (B b:Nat)(l:List UInt8)(w:World)(h:Lib.IsBuilderF 42 5 B b (Lib.byteCells l) w)(hBw:B<=w.heap.size):
 Calls Tryz.prog 22 #[.pointer (some ⟨b,0,none⟩)] w λe w'=>e= .returned (.string ⟨l.toArray⟩)/\(Lib.IsBuilderF 42 5 B b (Lib.byteCells l) w'/\Below B w w'/\Lib.OthersKept 5 (some b) w w'):=Any.Builder_String_any_k Tryz.lays169 Tryz.Builder_Extra_169 B b l w h hBw
def Tryz.lays242_ren:Go.Shelf.Ren:=⟨λ | 242=>70 | 278=>128 |n=>n,λ | 37=>40 | 21=>21 | 51=>90 | 4=>4 | 5=>5 | 46=>132 |n=>n,λ |n=>n⟩
theorem Tryz.lays242:Go.Proofs.Lays.n242 Tryz.prog Tryz.lays242_ren:={
 mixed:=by kernel_rfl
 f242:=Tryz.func70.trans (congrArg some (by kernel_rfl))
 f278:=Tryz.func128.trans (congrArg some (by kernel_rfl))
 t4:=Tryz.underlying4
 a4:=Tryz.isAgg4
 z4:=Tryz.sizeOf4
 v4:=Tryz.zeroValue4
 t5:=Tryz.underlying5
 a5:=Tryz.isAgg5
 z5:=Tryz.sizeOf5
 v5:=Tryz.zeroValue5
 t21:=Tryz.underlying21
 a21:=Tryz.isAgg21
 z21:=Tryz.sizeOf21
 v21:=Tryz.zeroValue21
 t37:=Tryz.underlying40
 a37:=Tryz.isAgg40
 z37:=Tryz.sizeOf40
 v37:=Tryz.zeroValue40
 t46:=Tryz.underlying132
 a46:=Tryz.isAgg132
 z46:=Tryz.sizeOf132
 v46:=Tryz.zeroValue132
 t51:=Tryz.underlying90
 a51:=Tryz.isAgg90
 z51:=Tryz.sizeOf90
 v51:=Tryz.zeroValue90}
open Go.RowKit in
theorem Tryz.utf8_AppendRune_plain (B:Nat)(v:Value)(n:Nat)(xs:List Value)(r:Int)(hr0: -2147483648<=r)(hr1:r<=2147483647)(w:World)(hown:w.ownsRow B 5 1 v n xs)(hlen:n+4<=140737488355328)(hBw:B<=w.heap.size):
 Calls Tryz.prog 70 #[v,.int .i32 r] w λe w'=>∃v',e= .returned v'/\w'.ownsRow B 5 1 v' (n+(Lib.runeCells r).length) (xs++Lib.runeCells r)/\∃o,(w.alloc o).grownBy w' v.ownBlock:=Any.utf8_AppendRune_plain Tryz.lays242 (by kernel_rfl) B v n xs r hr0 hr1 w hown hlen hBw
def Tryz.lays283_ren:Go.Shelf.Ren:=⟨λ | 283=>184 |n=>n,λ | 3=>3 | 9=>9 | 4=>4 |n=>n,λ |n=>n⟩
theorem Tryz.lays283:Go.Proofs.Lays.n283 Tryz.prog Tryz.lays283_ren:={
 mixed:=by kernel_rfl
 f283:=Tryz.func184.trans (congrArg some (by kernel_rfl))
 t3:=Tryz.underlying3
 a3:=Tryz.isAgg3
 z3:=Tryz.sizeOf3
 v3:=Tryz.zeroValue3
 t4:=Tryz.underlying4
 a4:=Tryz.isAgg4
 z4:=Tryz.sizeOf4
 v4:=Tryz.zeroValue4
 t9:=Tryz.underlying9
 a9:=Tryz.isAgg9
 z9:=Tryz.sizeOf9
 v9:=Tryz.zeroValue9}
open Go.Lib in
theorem Tryz.internal_strconv_small (i:Nat)(h:i<100)(w:World):
 Calls Tryz.prog 184 #[.int .i64 i] w λe w'=>e= .returned (.string ⟨(Lib.decDigits i).toArray⟩)/\w'=w:=Any.internal_strconv_small Tryz.lays283 i h w
def Tryz.laysM284_ren:Go.Shelf.Ren:=⟨λ | 284=>185 | 129=>200 | 317=>199 | 318=>201 |n=>n,λ | 53=>107 | 3=>3 | 212=>167 | 0=>0 | 4=>4 | 46=>132 | 5=>5 | 9=>9 |n=>n,λ | 17=>0 |n=>n⟩
theorem Tryz.laysM284:Go.Proofs.LaysM.n284 Tryz.prog Tryz.laysM284_ren:={
 mixed:=by kernel_rfl
 f129:=Tryz.func200.trans (congrArg some (by kernel_rfl))
 f284:=Tryz.func185.trans (congrArg some (by kernel_rfl))
 f317:=Tryz.func199.trans (congrArg some (by kernel_rfl))
 f318:=Tryz.func201.trans (congrArg some (by kernel_rfl))
 t0:=Tryz.underlying0
 a0:=Tryz.isAgg0
 z0:=Tryz.sizeOf0
 v0:=Tryz.zeroValue0
 t3:=Tryz.underlying3
 a3:=Tryz.isAgg3
 z3:=Tryz.sizeOf3
 v3:=Tryz.zeroValue3
 t4:=Tryz.underlying4
 a4:=Tryz.isAgg4
 z4:=Tryz.sizeOf4
 v4:=Tryz.zeroValue4
 t5:=Tryz.underlying5
 a5:=Tryz.isAgg5
 z5:=Tryz.sizeOf5
 v5:=Tryz.zeroValue5
 t9:=Tryz.underlying9
 a9:=Tryz.isAgg9
 z9:=Tryz.sizeOf9
 v9:=Tryz.zeroValue9
 t46:=Tryz.underlying132
 a46:=Tryz.isAgg132
 z46:=Tryz.sizeOf132
 v46:=Tryz.zeroValue132
 t53:=Tryz.underlying107
 a53:=Tryz.isAgg107
 z53:=Tryz.sizeOf107
 v53:=Tryz.zeroValue107
 t212:=Tryz.underlying167
 a212:=Tryz.isAgg167
 z212:=Tryz.sizeOf167
 v212:=Tryz.zeroValue167
 g17:=by kernel_rfl
 i0:=by kernel_rfl
 i3:=by kernel_rfl
 i4:=by kernel_rfl
 i5:=by kernel_rfl
 i9:=by kernel_rfl
 i46:=by kernel_rfl
 i53:=by kernel_rfl
 i212:=by kernel_rfl
 m17:=by kernel_rfl}
open Go.Lib in
theorem Tryz.internal_strconv_numDigits (u:Nat)(h1:1≤u)(h2:u<18446744073709551616)(w:World)(htab:Lib.TabIs Tryz.prog w "internal/strconv.uint64pow10" .u64 Lib.pow10Tab):
 Calls Tryz.prog 185 #[.int .u64 u] w λe w'=>e= .returned (.int .i64 (Lib.nDigits u))/\w'=w:=Any.internal_strconv_numDigits Tryz.laysM284 u h1 h2 w htab
def Tryz.lays285_ren:Go.Shelf.Ren:=⟨λ | 285=>186 |n=>n,λ | 37=>40 | 53=>107 | 3=>3 | 4=>4 | 51=>90 | 9=>9 | 5=>5 | 0=>0 |n=>n,λ |n=>n⟩
theorem Tryz.lays285:Go.Proofs.Lays.n285 Tryz.prog Tryz.lays285_ren:={
 mixed:=by kernel_rfl
 f285:=Tryz.func186.trans (congrArg some (by kernel_rfl))
 t0:=Tryz.underlying0
 a0:=Tryz.isAgg0
 z0:=Tryz.sizeOf0
 v0:=Tryz.zeroValue0
 t3:=Tryz.underlying3
 a3:=Tryz.isAgg3
 z3:=Tryz.sizeOf3
 v3:=Tryz.zeroValue3
 t4:=Tryz.underlying4
 a4:=Tryz.isAgg4
 z4:=Tryz.sizeOf4
 v4:=Tryz.zeroValue4
 t5:=Tryz.underlying5
 a5:=Tryz.isAgg5
 z5:=Tryz.sizeOf5
 v5:=Tryz.zeroValue5
 t9:=Tryz.underlying9
 a9:=Tryz.isAgg9
 z9:=Tryz.sizeOf9
 v9:=Tryz.zeroValue9
 t37:=Tryz.underlying40
 a37:=Tryz.isAgg40
 z37:=Tryz.sizeOf40
 v37:=Tryz.zeroValue40
 t51:=Tryz.underlying90
 a51:=Tryz.isAgg90
 z51:=Tryz.sizeOf90
 v51:=Tryz.zeroValue90
 t53:=Tryz.underlying107
 a53:=Tryz.isAgg107
 z53:=Tryz.sizeOf107
 v53:=Tryz.zeroValue107}
open Go.RowKit Go.Sort Go.Lib in
theorem Tryz.internal_strconv_formatBase10 (blk off cap:Nat)(u:Nat)(d:Array UInt8)(w:World)(hH:Holds (λ(b:UInt8)=>Value.int .u8 (b.toNat:Int)) w blk off d)(hu:u<10^d.size)(hu64:u<18446744073709551616)(hsz:d.size<4611686018427387904):
 Calls Tryz.prog 186 #[.slice (some ⟨blk,off,none⟩) d.size cap,.int .u64 u] w λe w'=>
  e= .returned (.tuple #[])/\∃(n v':Nat) (dk:Array UInt8),w'=(putRow (λ(b:UInt8)=>Value.int .u8 (b.toNat:Int)) w blk off dk).drewN n/\FmtInv d.size u 0 v' dk:=Any.internal_strconv_formatBase10 Tryz.lays285 blk off cap u d w hH hu hu64 hsz
def Tryz.lays99_ren:Go.Shelf.Ren:=⟨λ | 99=>55 | 206=>89 |n=>n,λ | 9=>9 | 4=>4 | 3=>3 |n=>n,λ |n=>n⟩
theorem Tryz.lays99:Go.Proofs.Lays.n99 Tryz.prog Tryz.lays99_ren:={
 mixed:=by kernel_rfl
 f99:=Tryz.func55.trans (congrArg some (by kernel_rfl))
 f206:=Tryz.func89.trans (congrArg some (by kernel_rfl))
 t3:=Tryz.underlying3
 a3:=Tryz.isAgg3
 z3:=Tryz.sizeOf3
 v3:=Tryz.zeroValue3
 t4:=Tryz.underlying4
 a4:=Tryz.isAgg4
 z4:=Tryz.sizeOf4
 v4:=Tryz.zeroValue4
 t9:=Tryz.underlying9
 a9:=Tryz.isAgg9
 z9:=Tryz.sizeOf9
 v9:=Tryz.zeroValue9}
open Go.RowKit Go.Lib in
theorem Tryz.strings_HasPrefix (s p:ByteArray)(w:World):
 Calls Tryz.prog 55 #[.string s,.string p] w λe w'=>e= .returned (.bool (Lib.hasPrefix s.data.toList p.data.toList))/\w'=w:=Any.strings_HasPrefix Tryz.lays99 s p w
def Tryz.lays105_ren:Go.Shelf.Ren:=⟨λ | 105=>124 | 212=>160 | 99=>55 | 165=>161 | 166=>36 | 170=>162 | 169=>22 | 263=>188 | 264=>189 | 206=>89 | 240=>65 | 241=>190 | 276=>119 | 277=>204 |n=>n,λ | 9=>9 | 3=>3 | 4=>4 | 20=>20 | 0=>0 | 46=>132 | 109=>133 | 5=>5 | 72=>42 | 76=>68 | 51=>90 | 146=>156 | 53=>107 | 148=>158 | 70=>39 | 37=>40 | 75=>67 | 127=>75 | 164=>116 | 80=>44 |n=>n,λ |n=>n⟩
theorem Tryz.lays105:Go.Proofs.Lays.n105 Tryz.prog Tryz.lays105_ren:={
 mixed:=by kernel_rfl
 f99:=Tryz.func55.trans (congrArg some (by kernel_rfl))
 f105:=Tryz.func124.trans (congrArg some (by kernel_rfl))
 f165:=Tryz.func161.trans (congrArg some (by kernel_rfl))
 f166:=Tryz.func36.trans (congrArg some (by kernel_rfl))
 f169:=Tryz.func22.trans (congrArg some (by kernel_rfl))
 f170:=Tryz.func162.trans (congrArg some (by kernel_rfl))
 f206:=Tryz.func89.trans (congrArg some (by kernel_rfl))
 f212:=Tryz.func160.trans (congrArg some (by kernel_rfl))
 f240:=Tryz.func65.trans (congrArg some (by kernel_rfl))
 f241:=Tryz.func190.trans (congrArg some (by kernel_rfl))
 f263:=Tryz.func188.trans (congrArg some (by kernel_rfl))
 f264:=Tryz.func189.trans (congrArg some (by kernel_rfl))
 f276:=Tryz.func119.trans (congrArg some (by kernel_rfl))
 f277:=Tryz.func204.trans (congrArg some (by kernel_rfl))
 t0:=Tryz.underlying0
 a0:=Tryz.isAgg0
 z0:=Tryz.sizeOf0
 v0:=Tryz.zeroValue0
 t3:=Tryz.underlying3
 a3:=Tryz.isAgg3
 z3:=Tryz.sizeOf3
 v3:=Tryz.zeroValue3
 t4:=Tryz.underlying4
 a4:=Tryz.isAgg4
 z4:=Tryz.sizeOf4
 v4:=Tryz.zeroValue4
 t5:=Tryz.underlying5
 a5:=Tryz.isAgg5
 z5:=Tryz.sizeOf5
 v5:=Tryz.zeroValue5
 t9:=Tryz.underlying9
 a9:=Tryz.isAgg9
 z9:=Tryz.sizeOf9
 v9:=Tryz.zeroValue9
 t20:=Tryz.underlying20
 a20:=Tryz.isAgg20
 z20:=Tryz.sizeOf20
 v20:=Tryz.zeroValue20
 t37:=Tryz.underlying40
 a37:=Tryz.isAgg40
 z37:=Tryz.sizeOf40
 v37:=Tryz.zeroValue40
 t46:=Tryz.underlying132
 a46:=Tryz.isAgg132
 z46:=Tryz.sizeOf132
 v46:=Tryz.zeroValue132
 t51:=Tryz.underlying90
 a51:=Tryz.isAgg90
 z51:=Tryz.sizeOf90
 v51:=Tryz.zeroValue90
 t53:=Tryz.underlying107
 a53:=Tryz.isAgg107
 z53:=Tryz.sizeOf107
 v53:=Tryz.zeroValue107
 t70:=Tryz.underlying39
 a70:=Tryz.isAgg39
 z70:=Tryz.sizeOf39
 v70:=Tryz.zeroValue39
 t72:=Tryz.underlying42
 a72:=Tryz.isAgg42
 z72:=Tryz.sizeOf42
 v72:=Tryz.zeroValue42
 t75:=Tryz.underlying67
 a75:=Tryz.isAgg67
 z75:=Tryz.sizeOf67
 v75:=Tryz.zeroValue67
 t76:=Tryz.underlying68
 a76:=Tryz.isAgg68
 z76:=Tryz.sizeOf68
 v76:=Tryz.zeroValue68
 t109:=Tryz.underlying133
 a109:=Tryz.isAgg133
 z109:=Tryz.sizeOf133
 v109:=Tryz.zeroValue133
 t127:=Tryz.underlying75
 a127:=Tryz.isAgg75
 z127:=Tryz.sizeOf75
 v127:=Tryz.zeroValue75
 t146:=Tryz.underlying156
 a146:=Tryz.isAgg156
 z146:=Tryz.sizeOf156
 v146:=Tryz.zeroValue156
 t148:=Tryz.underlying158
 a148:=Tryz.isAgg158
 z148:=Tryz.sizeOf158
 v148:=Tryz.zeroValue158
 t164:=Tryz.underlying116
 a164:=Tryz.isAgg116
 z164:=Tryz.sizeOf116
 v164:=Tryz.zeroValue116}
theorem Tryz.Builder_Extra_105:Builder.Extra Tryz.prog Tryz.lays105_ren:={
 sizeBuilder:=by kernel_rfl
 liesBuilder:=by kernel_rfl
 t5:=Tryz.underlying5
 a5:=Tryz.isAgg5
 z5:=Tryz.sizeOf5
 v5:=Tryz.zeroValue5
 infoByte:=by kernel_rfl
 cellsByte:=by kernel_rfl
 sizeByte:=by kernel_rfl
 neB5:=by decide}
open Go.RowKit Go.Lib in
theorem Tryz.strings_Repeat (s:ByteArray)(c:Nat)(w:World)(hc:c<=9223372036854775807)(hlen:s.size*c<=140737488355328):
 Calls Tryz.prog 124 #[.string s,.int .i64 c] w λe w'=>e= .returned (.string ⟨(Lib.repeatL s.data.toList c).toArray⟩)/\Below w.heap.size w w':=Any.strings_Repeat Tryz.lays105 Tryz.Builder_Extra_105 s c w hc hlen
end Go.Proofs
namespace Go.Proofs.YtceplkpjnebnfaaGreatDoor
section
open Go.RowKit Go.Sort Go.Lib Go.Shelf
theorem O6 (w:World)(T:TypeId)(nd:Nat)(hs:nd<=24):Holds (λ(b:UInt8)=>Value.int .u8 (b.toNat:Int)) (w.alloc (.cells zeros24 T)) w.heap.size 0 (Array.replicate nd (0:UInt8)):=λj hj=>by
 have hj':j<nd:=by simpa using hj
 refine⟨?_,World.frozen?_alloc_new _ _ _ _⟩;rw[World.cell?_alloc_new,zeros24_at _ (by omega),getElem!_pos _ j hj];simp
theorem Sqa (w:World)(o:Obj)(dk:Array UInt8)(k:Nat):Below w.heap.size w ((putRow (λ(b:UInt8)=>Value.int .u8 (b.toNat:Int)) (w.alloc o) w.heap.size 0 dk).drewN k):=by
 rw[alloc_eq_grow];obtain⟨os',_,e⟩:=putRow_grow_new (λ(b:UInt8)=>Value.int .u8 (b.toNat:Int)) w #[o] w.heap.size 0 dk Lr;rw[e];exact⟨rfl,rfl,rfl,by show w.heap.size<=(grow w os').heap.size;simp,λg hg=>heap_grow_old w os' hg⟩
theorem Ko (u:Nat)(w:World)(hu64:u<18446744073709551616)(htab:Lib.TabIs Tryz.prog w "internal/strconv.uint64pow10" .u64 Lib.pow10Tab):
 Calls Tryz.prog 159 #[.int .u64 (u:Int),.int .i64 10] w λe w'=>e= .returned (.string ⟨(Lib.decDigits u).toArray⟩)/\Below w.heap.size w w':=by
 by_cases hs:u<100
 ·go_enter Tryz.func159,Tryz.ntmps159
  go_wp2_with (go_at_call 184;refine(Tryz.internal_strconv_small u hs _).mono ?_;rintro e w' ⟨rfl,rfl⟩)
  go_ret;exact⟨rfl,Br⟩
 have hu1:1<=u:=by omega
 have hnd20:Lib.nDigits u<=20:=by have:=Lib.numDigits_eq u hu1 hu64;split at this<;>omega
 have hH0:=O6 w 151 (Lib.nDigits u) (by omega);have hfmt:=Tryz.internal_strconv_formatBase10 w.heap.size 0 24 u (Array.replicate (Lib.nDigits u) 0) (w.alloc (.cells Lib.zeros24 151)) hH0 (by rw[Array.size_replicate];exact Lib.lt_pow_nDigits u) hu64 (by rw[Array.size_replicate];omega);rw[Array.size_replicate] at hfmt;have HH0:=Qd hH0;clear hH0;have hal:Program.arrayLen Tryz.prog 151=24:=by simp[Program.arrayLen,Tryz.underlying151]
 have hb3:Lib.nDigits u<=24:=by omega
 have hsl1:∀W,(Instr.sliceAt 151 (.pointer (some ⟨w.heap.size,0,none⟩)) none (some (.int .i64 (Lib.nDigits u:Int))) none).run Tryz.prog W= .ok (.slice (some ⟨w.heap.size,0,none⟩) (Lib.nDigits u) 24) W:=λW=>by
  rw[run_sliceAt_array_h W 151 ⟨w.heap.size,0,none⟩ (by simp[Program.arrayLen,Program.elem,Tryz.underlying151]) .i64 (Lib.nDigits u:Int) (by omega) (by rw[hal];omega)];go_simp
 clear hal;go_enter Tryz.func159,Tryz.ntmps159
 go_wp2_with (first
  |(go_at_call 185;refine(Tryz.internal_strconv_numDigits u hu1 hu64 _ (Lib.tabIs_alloc htab _)).mono ?_;rintro e w' ⟨rfl,rfl⟩))
 refine hfmt.mono ?_;rintro e w' ⟨rfl,k,v',dk,rfl,hF⟩;have hcv:(convert 40 9 (.slice (some ⟨w.heap.size,0,none⟩) (Lib.nDigits u) 24)).run Tryz.prog ((putRow (λ(b:UInt8)=>Value.int .u8 (b.toNat:Int)) (w.alloc (.cells Lib.zeros24 151)) w.heap.size 0 dk).drewN k)= .ok (.string ⟨(Lib.decDigits u).toArray⟩) ((putRow (λ(b:UInt8)=>Value.int .u8 (b.toNat:Int)) (w.alloc (.cells Lib.zeros24 151)) w.heap.size 0 dk).drewN k):=by
  have h:=run_convert_bytes_back (P:=Tryz.prog) ((putRow (λ(b:UInt8)=>Value.int .u8 (b.toNat:Int)) (w.alloc (.cells Lib.zeros24 151)) w.heap.size 0 dk).drewN k) 40 9 5 ⟨w.heap.size,0,none⟩ 24 (Lib.decDigits u) Tryz.underlying40 Tryz.underlying5 Tryz.underlying9 (λj hj=>by
   rw[Lib.row_is_numeral hF j hj,Lib.add_plain,World.cell?_drewN];exact cell?_putRow (λ(b:UInt8)=>Value.int .u8 (b.toNat:Int)) _ w.heap.size 0 _ dk HH0.out (by rw[hF.size,Array.size_replicate]) j (by rw[hF.size];rw[Lib.decDigits_length] at hj;exact hj))
  rw[Lib.decDigits_length] at h;exact h
 go_wp2_with fail
 go_ret;exact⟨rfl,Sqa _ _ _ _⟩
theorem Rv (u:Nat)(w:World)(hu64:u<18446744073709551616)(htab:Lib.TabIs Tryz.prog w "internal/strconv.uint64pow10" .u64 Lib.pow10Tab):
 Calls Tryz.prog 123 #[.int .u64 (u:Int),.int .i64 10] w λe w'=>e= .returned (.string ⟨(Lib.decDigits u).toArray⟩)/\Below w.heap.size w w':=by
 go_enter Tryz.func123,Tryz.ntmps123
 go_wp2_with (go_at_call 159;refine(Ko u w hu64 htab).mono ?_;rintro e w' ⟨rfl,hb⟩)
 go_ret;exact⟨rfl,hb⟩
end
open Go.RowKit
def NatTold (s:List UInt8)(w:World)(e:Ending)(w':World):Prop:=Below w.heap.size w w'/\∃(v:Value) (ok:Bool) (n:Nat),e= .returned (.tuple #[v,.bool ok])/\IsRes w' v (Nt.digs n)/\((ok=true/\Ten.Valid s/\n=Ten.numOf s)\/(ok=false/\¬Ten.Valid s/\n=0))
theorem NatTold.no {s:List UInt8}{w w':World}(hb:Below w.heap.size w w')(h:¬Ten.Valid s):NatTold s w (.returned (.tuple #[.slice none 0 0,.bool false])) w':=⟨hb,_,false,0,rfl,by rw[Nt.digs_zero];exact IsRes.none_ _,.inr ⟨rfl,h,rfl⟩⟩
theorem NatTold.yes {s:List UInt8}{w w':World}{v:Value}(hb:Below w.heap.size w w')(h:Ten.Valid s)(hv:IsRes w' v (Nt.digs (Ten.numOf s))):NatTold s w (.returned (.tuple #[v,.bool true])) w':=⟨hb,_,true,_,rfl,hv,.inl ⟨rfl,h,rfl⟩⟩
def NumAt (s:List UInt8)(k n:Nat):Prop:=n=Ten.numOf (s.take k)/\∀j (hj:j<s.length),j<k->Ten.isDig s[j]
theorem NumAt.start (s:List UInt8):NumAt s 0 0:=⟨rfl,λj _ h=>absurd h (by omega)⟩
theorem NumAt.step {s:List UInt8}{k n:Nat}(h:NumAt s k n)(hk:k<s.length)(hd:Ten.isDig s[k]):NumAt s (k+1) (n*10+(s[k].toNat-48)):=by
 refine⟨?_,λj hj hjk=>?_⟩
 ·rw[List.take_succ_eq_append_getElem hk,Ten.numOf_snoc,<-h.1];omega
 by_cases e:j=k
 ·subst e;exact hd
 exact h.2 j hj (by omega)
theorem NumAt.done {s:List UInt8}{n:Nat}(h:NumAt s s.length n)(h0:s≠[])(h1:1<s.length->s.head?≠some 48):Ten.Valid s/\n=Ten.numOf s:=by
 refine⟨⟨h0,h1,λb hb=>?_⟩,by rw[h.1,List.take_length]⟩;obtain⟨j,hj,rfl⟩:=List.mem_iff_getElem.1 hb;exact h.2 j hj hj
theorem E3 {s:List UInt8}{k:Nat}(hk:k<s.length)(h:s[k].toNat<48\/57<s[k].toNat):¬Ten.Valid s:=λhv=>by
 have:=hv.2.2 s[k] (List.getElem_mem hk);unfold Ten.isDig at this;omega
theorem F9 {s:List UInt8}(h:0<s.length):s.head?=some s[0]:=by
 cases s with
 |nil=>simp at h
 |cons b r=>rfl
def PartAt (s:List UInt8)(n Ac k p sc:Nat):Prop:=sc=10^(k-Ac)/\p<sc/\Ten.numOf (s.take k)=n*sc+p
theorem PartAt.start {s:List UInt8}{n Ac:Nat}(h:n=Ten.numOf (s.take Ac)):PartAt s n Ac Ac 0 1:=⟨by rw[Nat.sub_self],by omega,by rw[<-h,Nat.mul_one,Nat.add_zero]⟩
theorem PartAt.step {s:List UInt8}{n Ac k p sc:Nat}(h:PartAt s n Ac k p sc)(h1:Ac<=k)(hk:k<s.length)(hd:Ten.isDig s[k]):PartAt s n Ac (k+1) (10*p+(s[k].toNat-48)) (sc*10):=by
 obtain⟨e1,e2,e3⟩:=h;have:=hd.2;refine⟨by rw[e1,show k+1-Ac=(k-Ac)+1 by omega,Nat.pow_succ],by omega,?_⟩;rw[List.take_succ_eq_append_getElem hk,Ten.numOf_snoc,e3];rw[show n*(sc*10)=n*sc*10 from(Nat.mul_assoc _ _ _).symm];generalize n*sc=q;omega
theorem PartAt.bound {s:List UInt8}{n Ac k p sc:Nat}(h:PartAt s n Ac k p sc)(m:Nat)(hk:k-Ac<=m):1<=sc/\sc<=10^m/\p<10^m:=by
 obtain⟨e1,e2,e3⟩:=h;have h1:10^(k-Ac)<=10^m:=Nat.pow_le_pow_right (by omega) hk;have h2:1<=10^(k-Ac):=Nat.pow_pos (by omega);omega
theorem Koa:∀(t:List UInt8),(∀b∈t,Ten.isDig b)->Ten.numOf t<10^t.length:=by
 intro t
 induction h:t.length generalizing t with
 |zero=>intro _;rw[List.eq_nil_of_length_eq_zero h];decide
 |succ n ih=>
  intro hd;have hne:t≠[]:=by intro e;rw[e] at h;simp at h
  obtain⟨r,b,rfl⟩:∃r b,t=r++[b]:=⟨t.dropLast,t.getLast hne,(List.dropLast_concat_getLast hne).symm⟩;have:=ih r (by simpa using h) (λc hc=>hd c (List.mem_append_left _ hc));have hb:=hd b (by simp);have:=hb.2;rw[Ten.numOf_snoc,Nat.pow_succ];omega
theorem num_len {s:List UInt8}(h:Ten.Valid s){k:Nat}(hk:k<=s.length):(Nt.digs (Ten.numOf (s.take k))).length<=k:=by
 have:=Koa (s.take k) (λb hb=>h.2.2 b (List.mem_of_mem_take hb));rw[List.length_take,Nat.min_eq_left hk] at this;exact Nt.digs_len_lt (Nat.lt_of_lt_of_le this (Nat.pow_le_pow_left (by omega) k))
theorem Qfa (s:List UInt8)(w:World)(hs:s.length<=1000):Calls Tryz.prog 193 #[.string ⟨s.toArray⟩] w (NatTold s w):=by
 obtain⟨i0,hi,hz0,hz1,hz2⟩:=info_parts Ye;by_cases h0:s=[]
 ·have HN:=Qd (NatTold.no (w:=w) (w':=w) (s:=s) Br (λh=>h.1 h0))
  subst h0;go_enter Tryz.func193,Tryz.ntmps193
  go_wp2_with fail
  go_ret2
  exact HN.out
 have hpos:0<s.length:=List.length_pos_iff.2 h0;have h0a:s.isEmpty=false:=by simpa using h0
 obtain⟨z,hz⟩:∃z,z=s[0].toNat:=⟨_,rfl⟩;have hg0:((⟨s.toArray⟩:ByteArray)[0]'(show 0<(⟨s.toArray⟩:ByteArray).size from hpos)).toNat=z:=hz.symm;by_cases hlead:1<s.length/\z=48
 ·obtain⟨h1,hz48⟩:=hlead
  have HN:=Qd (NatTold.no (w:=w) (w':=w) (s:=s) Br (λh=>h.2.1 h1 (by rw[F9 hpos,UInt8.toNat_inj.1 (show s[0].toNat=(48:UInt8).toNat by rw[<-hz,hz48];rfl)])));have hza:((z:Int)==48)=true:=by simp[hz48]
  clear h0 hz hz48;go_enter Tryz.func193,Tryz.ntmps193
  go_wp2_with fail
  go_ret2
  exact HN.out
 have HV:Hid (s≠[]/\(1<s.length->s.head?≠some 48)):=Qd ⟨h0,λh1 e=>hlead ⟨h1,by
  rw[F9 hpos] at e;injection e with e;rw[hz,e];rfl⟩⟩
 have hgo:s.length<=1\/(1<s.length/\((z:Int)==48)=false):=by
  rcases Nat.lt_or_ge 1 s.length with h |h
  ·exact .inr ⟨h,by rw[beq_eq_false_iff_ne];intro e;exact hlead ⟨h,by omega⟩⟩
  exact .inl h
 clear hlead hz h0;go_enter Tryz.func193,Tryz.ntmps193
 rcases hgo with hl1 |⟨hl1,hza⟩
 all_goals
  go_wp2_with fail
  go_loop [24] (λi=>∃k:Nat,k<=s.length/\i= .int .i64 (k:Int)/\Hid (∀j (hj:j<s.length),j<k->Ten.isDig s[j])) (λi=>s.length-(intOf i).toNat)
  case atStart=>exact⟨0,by omega,rfl,Qd (λj _ h=>absurd h (by omega))⟩
  case round=>
   obtain⟨k,hk,rfl,H⟩:=hrel;by_cases hlt:k<s.length
   ·obtain⟨y,hy⟩:∃y,y=s[k].toNat:=⟨_,rfl⟩
    have hgy:((⟨s.toArray⟩:ByteArray)[k]'(show k<(⟨s.toArray⟩:ByteArray).size from hlt)).toNat=y:=hy.symm;have hy8:y<256:=by rw[hy];exact UInt8.toNat_lt _
    by_cases hd:48<=y/\y<=57
    ·obtain⟨hd1,hd2⟩:=hd
     have HD:Hid (∀j (hj:j<s.length),j<k+1->Ten.isDig s[j]):=Qd (λj hj hjk=>by
      by_cases e:j=k
      ·subst e;exact⟨by rw[<-hy];exact hd1,by rw[<-hy];exact hd2⟩
      exact H.out j hj (by omega))
     clear hy;go_wp2_with fail
     exact⟨⟨k+1,by omega,by go_num,HD⟩,by simp[intOf];omega⟩
    have HN:=Qd (NatTold.no (w:=w) (w':=w) (s:=s) Br (E3 hlt (by rw[<-hy];omega)));have hc:y<48\/(48<=y/\57<y):=by omega
    clear hy hd;rcases hc with hc |⟨hc,hc2⟩
    all_goals
     go_wp2_with fail
     go_ret2
     exact HN.out
   obtain rfl:k=s.length:=by omega
   have HVAL:Hid (Ten.Valid s):=Qd ⟨HV.out.1,HV.out.2,λb hb=>by
    obtain⟨j,hj,rfl⟩:=List.mem_iff_getElem.1 hb;exact H.out j hj hj⟩
   clear hlt;go_wp2_with (at_make;refine Ad _ rfl _ _ 22 rfl 90 i0 (.int .u32 0) Tryz.underlying22 hi hz0 hz1 rfl .i64 .i64 _ _ 0 (s.length/9+1) rfl rfl rfl (by go_num) (by omega) (by rw[hz2];omega) (by omega) w.heap.size w Br Lr ?_;intro w1 hblk1 hb1 hb1' hlt1)
   have hown1:w1.ownsRow w.heap.size 90 1 (.slice (some ⟨w.heap.size,0,none⟩) 0 (s.length/9+1)) 0 []:=by
    have:=hblk1.own (base:=w.heap.size) (n:=0) Lr (by omega) (by simp[maxLen];omega)
    simpa using this
   clear hblk1 hb1' hlt1;go_loopw [5,6] (λov i wr=>∃(k n:Nat),k<=s.length/\i= .int .i64 (k:Int)/\wr.ownsRow w.heap.size 90 1 ov (Nt.digs n).length (U (Nt.digs n))/\Below w.heap.size w wr/\Hid (n=Ten.numOf (s.take k))) (λ_ i _=>s.length-(intOf i).toNat)
   case atStart=>exact⟨0,0,by omega,rfl,by rw[Nt.digs_zero];exact hown1,hb1,Qd rfl⟩
   case round=>
    clear hown1 hb1;obtain⟨k,n,hk,rfl,hown,hbel,H2⟩:=hrel;have hsz:=hbel.size;by_cases hlt:k<s.length
    ·have hdl:(Nt.digs n).length<=1000000:=by
      have:=num_len HVAL.out hk;rw[H2.out];omega
     obtain⟨E,hE⟩:∃E:Nat,E=min (k+9) s.length:=⟨_,rfl⟩;have hE1:k<E:=by omega
     have hE2:E<=s.length:=by omega
     have hE3:E<=k+9:=by omega
     have hEi:min ((k:Int)+9) (s.length:Int)=(E:Int):=by omega
     clear hE;go_wp2_with fail
     go_loop [6,7,8] (λav pv sv=>∃(j p sc:Nat),k<=j/\j<=E/\p<1000000000/\1<=sc/\sc<=1000000000/\av= .int .i64 (j:Int)/\pv= .int .u32 (p:Int)/\sv= .int .u32 (sc:Int)/\Hid (PartAt s n k j p sc)) (λav _ _=>E-(intOf av).toNat)
     case atStart=>exact⟨k,0,1,Lr,by omega,by omega,by omega,by omega,rfl,rfl,rfl,Qd (PartAt.start H2.out)⟩
     case round=>
      obtain⟨j,p,sc,hj1,hj2,hp,hsc1,hsc2,rfl,rfl,rfl,HP⟩:=hrel;by_cases hjE:j<E
      ·have hjs:j<s.length:=by omega
       obtain⟨y,hy⟩:∃y,y=s[j].toNat:=⟨_,rfl⟩;have hgy:((⟨s.toArray⟩:ByteArray)[j]'(show j<(⟨s.toArray⟩:ByteArray).size from hjs)).toNat=y:=hy.symm;have hdg:=HVAL.out.2.2 s[j] (List.getElem_mem hjs);have ST:=Qd (HP.out.step hj1 hjs hdg);have BD:=HP.out.bound 8 (by omega);simp only[Nat.reducePow] at BD;obtain⟨_,hb1,hb2⟩:=BD;unfold Ten.isDig at hdg;rw[<-hy] at ST hdg;obtain⟨hd1,hd2⟩:=hdg;clear hy;go_wp2_with fail
       exact⟨⟨j+1,10*p+(y-48),sc*10,by omega,by omega,by omega,by omega,by omega,by go_num,congrArg (Value.int .u32) (by omega),congrArg (Value.int .u32) (by omega),ST⟩,by simp[intOf];omega⟩
      obtain rfl:j=E:=by omega
      have LEN:=Qd (Mz w.heap.size _ n sc p wr hown hsz hdl hsc1 (by omega) (by omega));clear hown;go_wp2_with (go_at_call 209;refine LEN.out.mono ?_;rintro e w2 ⟨v2,rfl,hown2,hb2⟩)
      exact⟨⟨j,n*sc+p,by omega,rfl,hown2,hbel.trans hb2,Qd HP.out.2.2.symm⟩,by simp[intOf];omega⟩
    obtain rfl:k=s.length:=by omega
    have HY:=Qd (NatTold.yes hbel HVAL.out (by have:=H2.out;rw[List.take_length] at this;rw[<-this];exact IsRes.of_own hown));go_wp2_with fail
    go_ret2
    exact HY.out
end Go.Proofs.YtceplkpjnebnfaaGreatDoor
namespace Nt
end Nt
namespace Go.Proofs.YtceplkpjnebnfaaGreatDoor
open Go.RowKit
def Sv (k:Nat):Nat:=10^(10*(k+1))
theorem I9 (k:Nat){l:List Nat}(ho:Nt.Ok l)(hs:l.length<=k+1):Nt.val l<Sv k:=by
 have h1:=Nt.val_lt ho;have h2:(4294967296:Nat)^l.length<=4294967296^(k+1):=Nat.pow_le_pow_right (by omega) hs;have h3:(4294967296:Nat)^(k+1)<=(10^10)^(k+1):=Nat.pow_le_pow_left (by omega) (k+1);rw[<-Nat.pow_mul] at h3;exact Nat.lt_of_lt_of_le h1 (Nat.le_trans h2 h3)
theorem J9 (k:Nat){n:Nat}(h:n<Sv k):(Lib.decDigits n).length<=10*(k+1):=by
 have:=(Ten.dec_len (k:=10*k+9) (r:=n) (by rw[show 10*k+9+1=10*(k+1) by omega];exact h)).2;omega
theorem Kl {l:List Nat}(ho:Nt.Ok l)(hs:l.length<=1000):(Lib.decDigits (Nt.val l)).length<=10000:=J9 999 (I9 999 ho hs)
end Go.Proofs.YtceplkpjnebnfaaGreatDoor
namespace Go.Proofs.YtceplkpjnebnfaaGreatDoor
open Go.RowKit
theorem En {w w':World}{base n:Nat}{t:TypeId}{v:Value}{xs:List Value}(h:w.ownsRow base t 1 v n xs)(hk:∀g,base<=g->g<w.heap.size->w'.heap[g]? =w.heap[g]?):w'.ownsRow base t 1 v n xs:=by
 refine⟨h.1,?_⟩;rcases h.2 with h2 |⟨g,cap,cur,hv,hb,hg,hr⟩
 ·exact .inl h2
 refine .inr ⟨g,cap,cur,hv,hb,?_,hr⟩;rw[hk g hb (by
  rcases Nat.lt_or_ge g w.heap.size with h' |h'
  ·exact h'
  rw[Array.getElem?_eq_none h'] at hg;cases hg)]
 exact hg
theorem Tj {w w':World}{T e:TypeId}{B b:Nat}{bs:List Value}(h:Lib.IsBuilder T e B b bs w)(hb:Below w.heap.size w w'):Lib.IsBuilder T e B b bs w':=by
 have one:∀{p:Value},Lib.BuilderAt T e B b p bs w->Lib.BuilderAt T e B b p bs w':=λ{p} k=>by
  have hlt:=k.lt;obtain⟨h1,v,h2,h3,h4⟩:=k;exact⟨h1,v,(hb.block b hlt).trans h2,En h3 (λg _ hg=>hb.block g hg),h4⟩
 exact h.imp one one
theorem Yi {P:Program}{w w':World}{Bc:String}{k:IntKind}{zs:List Int}{B:Nat}(h:Lib.TabIs P w Bc k zs)(hb:Below B w w')(hg:∀g,P.globalNamed Bc=some g->g<B):Lib.TabIs P w' Bc k zs:=by
 unfold Lib.TabIs World.var? at*;cases he:P.globalNamed Bc with
 |none=>simp[he] at h
 |some g=>
  simp only[he,Option.bind_some] at h⊢;rw[hb.block g (hg g he)];exact h
def F3:Value->Nat
 | .slice _ n _=>n
 |_=>0
def Ui (v i:Nat):List Nat:=(List.range i).map (Ten.grp v)
theorem Wia (v i:Nat):(Ui v i).length=i:=by simp[Ui]
theorem Rfa (v i:Nat):Ui v (i+1)=Ui v i++[Ten.grp v i]:=by simp[Ui,List.range_succ]
theorem Gma {v i j:Nat}(h:j<i):(Ui v i)[j]? =some (Ten.grp v j):=by
 rw[Ui,List.getElem?_map,List.getElem?_range h];rfl
theorem Kba (k:Nat){v i:Nat}(hv:v<Sv k)(h:0<v/1000000000^i):9*i<10*(k+1):=by
 rcases Nat.lt_or_ge (9*i) (10*(k+1)) with h' |h'
 ·exact h'
 exfalso
 have h1:(10:Nat)^(10*(k+1))<=10^(9*i):=Nat.pow_le_pow_right (by omega) h';rw[Nat.pow_mul 10 9 i] at h1;rw[Nat.div_eq_of_lt (Nat.lt_of_lt_of_le hv h1)] at h;omega
theorem Sfa {v i:Nat}(hv:v<Sv 999)(h:0<v/1000000000^i):i<1112:=by
 have:=Kba 999 hv h;omega
theorem Tfa {l:List Nat}(ho:Nt.Ok l)(hs:l.length<=1000):Nt.val l<Sv 999:=I9 999 ho hs
theorem Ufa {m n:Nat}(h:m<=n)(hn:n<Sv 999):(Lib.decDigits m).length<=10000:=J9 999 (Nat.lt_of_le_of_lt h hn)
theorem J3:∀c,Lib.repeatL [48] c=List.replicate c 48
 | 0=>rfl
 |c+1=>by rw[Lib.repeatL,J3 c,List.replicate_succ];rfl
theorem Lba {n i j:Nat}(h:0<n/1000000000^j)(hij:i<=j):0<n/1000000000^i:=
 Nat.lt_of_lt_of_le h (Nat.div_le_div_left (Nat.pow_le_pow_right (by omega) hij) (Nat.pow_pos (by omega)))
theorem Xia (A:Option Addr)(c B:Nat)(l:List Nat)(w:World)(hl:Lies w B A (U l))(hB:B<=w.heap.size)(ho:Nt.Ok l)(hc:l.length<=c)(hm:c<=9223372036854775807)(hs:l.length<=1000)
 (htab:Lib.TabIs Tryz.prog w "internal/strconv.uint64pow10" .u64 Lib.pow10Tab) (hg:∀g,Tryz.prog.globalNamed "internal/strconv.uint64pow10" =some g→g<w.heap.size):
 Calls Tryz.prog 66 #[.slice A l.length c] w λe w'=>e= .returned (.string ⟨(Lib.decDigits (Nt.val l)).toArray⟩)/\Below w.heap.size w w':=by
 obtain⟨i0,hi,hz0,hz1,hz2⟩:=info_parts Ye;have hdl:=Nt.digs_len_le ho;have hlen:=Kl ho hs;have hvb:=Qd (Tfa ho hs);have RN:=Qd (Oh A c B l w hl hB ho hc hm (by omega));have HTAB:=Qd htab;have HG:=Qd hg;clear hl ho htab hg;generalize Nt.val l=n at*;go_enter Tryz.func66,Tryz.ntmps66
 go_wp2_with fail
 refine RN.out.mono ?_;rintro e w1 ⟨rfl,hblk1,hb1⟩;by_cases h0:n=0
 ·subst h0
  rw[Nt.digs_zero];clear RN;have HZ:Hid (Lib.decDigits 0=[48]):=Qd (Ten.dec_small (by omega));go_wp2_with fail
  go_ret;rw[HZ.out];exact⟨rfl,hb1⟩
 have hne:(Nt.digs n).length≠0:=λe=>h0 (Nt.digs_nil_iff.1 (List.eq_nil_of_length_eq_zero e));have hne2:(((Nt.digs n).length:Int)==0)=false:=by rw[beq_eq_false_iff_ne];omega
 clear RN;have hsz1:=hblk1.lt;go_wp2_with (at_make;refine Ad _ rfl _ _ 22 rfl 90 i0 (.int .u32 0) Tryz.underlying22 hi hz0 hz1 rfl .i64 .i64 _ _ 0 ((Nt.digs n).length+(Nt.digs n).length/8+1) rfl rfl rfl (by go_num) (by omega) (by rw[hz2];omega) (by omega) w.heap.size w hb1 (by omega) ?_;intro w2 hblk2 hb2 hb2' hlt2)
 have hown2:w2.ownsRow (w.heap.size+1) 90 1 (.slice (some ⟨w1.heap.size,0,none⟩) 0 ((Nt.digs n).length+(Nt.digs n).length/8+1)) 0 []:=by
  have:=hblk2.own (base:=w.heap.size+1) (n:=0) (by omega) (by omega) (by simp[maxLen];omega)
  simpa using this
 have hblkG:=hblk1.keep hb2' hsz1;clear hblk1 hblk2 hb1 hb2' hlt2;go_loopw [3,4] (λrv gv wr=>∃(i y cc:Nat) (tl:List Value),i<=1112/\(Nt.digs y).length<=1000/\(Nt.digs y).length<=cc/\cc<=1000/\rv= .slice (some ⟨w.heap.size,0,none⟩) (Nt.digs y).length cc/\Blk wr w.heap.size 90 (U (Nt.digs y)++tl)/\wr.ownsRow (w.heap.size+1) 90 1 gv i (U (Ui n i))/\Below w.heap.size w wr/\Hid (y=n/1000000000^i/\(i=0\/0<n/1000000000^(i-1)))) (λ_ gv _=>1200-F3 gv)
 case atStart=>exact⟨0,n,(Nt.digs n).length,[],by omega,by omega,Lr,by omega,rfl,by rw[List.append_nil];exact hblkG,hown2,hb2,Qd ⟨by simp,.inl rfl⟩⟩
 case round=>
  clear hown2 hblkG hb2 hne hne2;obtain⟨i,y,cc,tl,hi12,hyl,hycc,hcc,rfl,hblk,hown,hbel,H⟩:=hrel;have hsz:=hbel.size;have hszG:=hblk.lt;obtain⟨A2,C2,rfl,hC1,hC2⟩:=Kb hown;by_cases hy0:y=0
  ·subst hy0
   rw[Nt.digs_zero];go_wp2_with fail
   have hip:0<i:=by
    rcases Nat.eq_zero_or_pos i with e |e
    ·have:=H.out.1;rw[e] at this;simp at this;omega
    exact e
   have HT0:Hid (n/1000000000^i=0∧0<n/1000000000^(i-1)):=Qd ⟨H.out.1.symm,H.out.2.resolve_left (by omega)⟩;have HLG:=Qd (Lies.of_own hown);have HTABW:Hid (∀wq,Below wr.heap.size wr wq→Lib.TabIs Tryz.prog wq "internal/strconv.uint64pow10" .u64 Lib.pow10Tab):=Qd (λwq hq=>Yi (Yi HTAB.out hbel HG.out) hq (λg hg=>Nat.lt_of_lt_of_le (HG.out g hg) hsz));have hbld0:Lib.IsBuilder 42 5 wr.heap.size wr.heap.size (Lib.byteCells []) (wr.alloc (.cells #[.pointer none,.slice none 0 0] 42)):= .inl ⟨Lr,.slice none 0 0,heap_alloc_new wr _,World.ownsRow_nil _ _ _ _,by simp[Value.ownBlock]⟩;have hbq0:Below wr.heap.size wr (wr.alloc (.cells #[.pointer none,.slice none 0 0] 42)):=Br.alloc Lr _;clear hown hblk H
   rename World=>W
   go_loopw [6] (λiv wq=>∃(k:Nat) (T:List UInt8),k<=i/\T.length<=10000/\iv= .int .i64 ((k:Int)-1)/\Lib.IsBuilder 42 5 W.heap.size W.heap.size (Lib.byteCells T) wq/\Below W.heap.size W wq/\Hid ((k=i/\T=[])\/(k<i/\T=Lib.decDigits (n/1000000000^k)))) (λiv _=>(intOf iv+1).toNat)
   case atStart=>exact⟨i,[],Lr,by simp,rfl,hbld0,hbq0,Qd (.inl ⟨rfl,rfl⟩)⟩
   case round=>
    clear hbld0 hbq0;obtain⟨k,T,hk,hTl,rfl,hbld,hbq,HK⟩:=hrel;have hszq:=hbq.size;rcases k with _ |k
    ·have HT:Hid (T=Lib.decDigits n):=Qd (by
      rcases HK.out with⟨e,_⟩ |⟨_,e⟩
      ·omega
      rw[e,Nat.pow_zero,Nat.div_one])
     have BS:=Qd (Tryz.Builder_String_any W.heap.size W.heap.size T wr hbld hszq);clear hbld;go_wp2_with (go_at_call 22;refine BS.out.mono ?_;rintro e w7 ⟨rfl,hb7⟩)
     go_ret;rw[HT.out];exact⟨rfl,hbel.trans ((hbq.trans hb7).mono hsz)⟩
    have hk1:((k+1:Nat):Int)-1=(k:Int):=by omega
    rw[hk1];clear hk1;have hki:k<(Ui n i).length:=by rw[Wia];omega
    obtain⟨b,off,rfl,hbb,hcell⟩:=(HLG.out.below hbq).limb hki;have hget:(Ui n i)[k]=Ten.grp n k:=by
     have:=Gma (v:=n) (show k<i by omega);rw[List.getElem?_eq_getElem hki] at this;exact Option.some.inj this
    rw[hget] at hcell;have hgl:=Ten.grp_lt n k;have HTOP:Hid (k+1=i->Lib.decDigits (Ten.grp n k)=Lib.decDigits (n/1000000000^k)):=Qd (λe=>Ten.grp_top (by rw[e];exact HT0.out.1));have HLOW:Hid (k+1<i->Lib.decDigits (n/1000000000^k)=Lib.decDigits (n/1000000000^(k+1))++(List.replicate (9-(Lib.decDigits (Ten.grp n k)).length) 48++Lib.decDigits (Ten.grp n k))):=Qd (λe=>Ten.grp_low (Lba HT0.out.2 (by omega)));have HSH:Hid ((Lib.decDigits (n/1000000000^k)).length<=10000):=Qd (Ufa (Nat.div_le_self _ _) hvb.out);have hD:=Ten.dec_len (k:=8) (show Ten.grp n k<10^9 by simpa using hgl);have FU:=Qd (Rv (Ten.grp n k) wr (by omega) (HTABW.out wr hbq));generalize Ten.grp n k=gq at*;obtain⟨D,hDe⟩:∃D,D=Lib.decDigits gq:=⟨_,rfl⟩;rw[<-hDe] at HTOP HLOW hD FU;clear hDe hget hki;by_cases hlow:k+1<i
    ·have HTT:Hid (T++(List.replicate (9-D.length) 48++D)=Lib.decDigits (n/1000000000^k)):=Qd (by
      rcases HK.out with⟨e,_⟩ |⟨_,e⟩
      ·omega
      rw[HLOW.out hlow,e])
     clear HTOP HLOW HK;go_wp2_with fail
     refine FU.out.mono ?_;rintro e w6 ⟨rfl,hb6⟩;have hbld6:=Tj hbld hb6;have hbq6:Below W.heap.size W w6:=hbq.trans (hb6.mono hszq);have hsz6:=hbq6.size;clear hbld hb6;go_wp2_with fail
     have HTL:Hid ((T++(List.replicate (9-D.length) 48++D)).length<=10000):=Qd (by rw[HTT.out];exact HSH.out);have hci:(9:Int)-(D.length:Int)=((9-D.length:Nat):Int):=by omega
     rw[hci];have RP:=Qd (Tryz.strings_Repeat ⟨#[48]⟩ (9-D.length) w6 (by omega) (by show 1*(9-D.length)<=_;omega));rw[show(⟨#[48]⟩:ByteArray).data.toList=[48] from rfl,J3] at RP;obtain⟨Z,hZ⟩:∃Z,Z=List.replicate (9-D.length) (48:UInt8):=⟨_,rfl⟩;have hZl:Z.length<=9:=by rw[hZ,List.length_replicate];omega
     rw[<-hZ] at RP HTL HTT;clear hZ hci;refine RP.out.mono ?_;rintro e w8 ⟨rfl,hb8⟩;have hbld8:=Tj hbld6 hb8;have hbq8:Below W.heap.size W w8:=hbq6.trans (hb8.mono hsz6);have hsz8:=hbq8.size;have WS1:=Qd (Gi W.heap.size W.heap.size _ ⟨Z.toArray⟩ w8 hbld8 (by rw[Lib.byteCells_length];show T.length+Z.length<=_;omega) hsz8);clear hbld6 hb8 hbld8;go_wp2_with fail
     refine WS1.out.mono ?_;rintro e w9 ⟨rfl,hbd9,hb9⟩;have hbld9:Lib.IsBuilder 42 5 W.heap.size W.heap.size (Lib.byteCells (T++Z)) w9:= .inr (by rw[Lib.byteCells_append];exact hbd9);have hbq9:Below W.heap.size W w9:=hbq8.trans hb9;have hsz9:=hbq9.size;have WS2:=Qd (Gi W.heap.size W.heap.size _ ⟨D.toArray⟩ w9 hbld9 (by rw[Lib.byteCells_length,List.length_append];show T.length+Z.length+D.length<=_;omega) hsz9);clear hbd9 hb9 hbld9;go_wp2_with (go_at_call 36;refine WS2.out.mono ?_;rintro e w7 ⟨rfl,hbd7,hb7⟩)
     go_roundw
     case rel=>exact⟨_,_,_,_,_,_,_,_,_,_,_,_,_,_,_,_,_,_,_,_,_,_,_,_,⟨k,T++(Z++D),by omega,HTL.out,by go_num,.inr (by rw[<-List.append_assoc,Lib.byteCells_append];exact hbd7),hbq9.trans hb7,Qd (.inr ⟨by omega,HTT.out⟩)⟩,rfl⟩
     case measure=>first|(simp[intOf];done) |(simp[intOf];omega)
    have HTT:Hid (T++D=Lib.decDigits (n/1000000000^k)):=Qd (by
     rcases HK.out with⟨_,e⟩ |⟨h,_⟩
     ·rw[e,List.nil_append];exact HTOP.out (by omega)
     omega)
    have HTL:Hid ((T++D).length<=10000):=Qd (by rw[HTT.out];exact HSH.out);clear HTOP HLOW HK;go_wp2_with fail
    refine FU.out.mono ?_;rintro e w6 ⟨rfl,hb6⟩;have hbld6:=Tj hbld hb6;have hbq6:Below W.heap.size W w6:=hbq.trans (hb6.mono hszq);have hsz6:=hbq6.size;have WS:=Qd (Gi W.heap.size W.heap.size _ ⟨D.toArray⟩ w6 hbld6 (by rw[Lib.byteCells_length];show T.length+D.length<=_;omega) hsz6);clear hbld hb6 hbld6;go_wp2_with (go_at_call 36;refine WS.out.mono ?_;rintro e w7 ⟨rfl,hbd7,hb7⟩)
    go_roundw
    case rel=>exact⟨_,_,_,_,_,_,_,_,_,_,_,_,_,_,_,_,_,_,_,_,_,_,_,_,⟨k,T++D,by omega,HTL.out,by go_num,.inr (by rw[Lib.byteCells_append];exact hbd7),hbq6.trans hb7,Qd (.inr ⟨by omega,HTT.out⟩)⟩,rfl⟩
    case measure=>first|(simp[intOf];done) |(simp[intOf];omega)
  have hypos:0<(Nt.digs y).length:=Nat.pos_of_ne_zero (λe=>hy0 (Nt.digs_nil_iff.1 (List.eq_nil_of_length_eq_zero e)));have hi2:i<1112:=Sfa hvb.out (by rw[<-H.out.1];omega);have SH:=Qd (Yq w.heap.size cc 1000000000 (Nt.digs y) tl wr hblk (Nt.ok_digs y) (by omega) (by omega) (by omega));rw[Nt.val_digs] at SH;have HGR:Hid (y%1000000000=Ten.grp n i):=Qd (by rw[H.out.1];rfl);rw[HGR.out] at SH;have hgl:=Ten.grp_lt n i;have HNX:Hid (y/1000000000=n/1000000000^(i+1)/\(i+1=0\/0<n/1000000000^(i+1-1))):=Qd ⟨by rw[H.out.1,Ten.div_next],.inr (by rw[Nat.add_sub_cancel,<-H.out.1];omega)⟩;have HLQ:Hid ((Nt.digs (y/1000000000)).length<=1000):=Qd (Nat.le_trans (Nt.digs_len_le_of (Nat.div_le_self y _)) hyl);obtain⟨gq,hgq⟩:∃gq,gq=Ten.grp n i:=⟨_,rfl⟩;have HNG:Hid (Ui n (i+1)=Ui n i++[gq]):=Qd (by rw[hgq];exact Rfa n i);rw[<-hgq] at SH hgl;clear hgq hblk HGR;go_wp2_with fail
  refine SH.out.mono ?_;rintro e w3 ⟨cur,rfl,hblk3,HC,hgr3⟩;have hbel3:Below w.heap.size w w3:=hbel.grown hgr3 hsz (λk hk=>by injection hk with hk;omega);have hown3:w3.ownsRow (w.heap.size+1) 90 1 (.slice A2 i C2) i (U (Ui n i)):=En hown (λg hg hgs=>hgr3.block g hgs (by intro e;injection e with e;omega));have hsz3:=hbel3.size;have hlt3:=hblk3.lt;clear hown hgr3;go_wp2_with (at_builtin;refine wpList_append_own _ rfl _ _ 22 rfl (w.heap.size+1) 90 i0 (.int .u32 0) 1 4 Tryz.underlying22 hi hz0 hz1 hz2 rfl (by decide) _ _ _ rfl (hown3.alloc _) ⟨_,0,none⟩ 1 1 [.int .u32 (gq:Int)] rfl rfl (cell_one_new _ _ _) (by intro u hu;simp only[List.mem_singleton] at hu;subst hu;rfl) (by unfold maxLen;omega) (by omega) (by simp;omega) ?_;intro v4 w4 hown4 hgrow4 hnn4)
  have hb4:Below w.heap.size w w4:=(hbel3.alloc hsz3 _).grown hgrow4 (by simp;omega) (λk hk=>by have:=(hown3.lt k hk).1;omega);have hblk4:Blk w4 w.heap.size 90 (U cur++tl):=(hblk3.alloc _).grown hgrow4 (by intro e;have:=(hown3.lt _ e.symm).1;omega);have hcy:cur.length=(Nt.digs y).length:=HC.out.1;have hl4:Lies w4 w4.heap.size (some ⟨w.heap.size,0,none⟩) (U cur):=by
   have:=(hblk4.lies).take cur.length;rwa[List.take_append_of_le_length (by rw[Ig];omega),List.take_of_length_le (by rw[Ig];omega)] at this
  have TR:=Qd (Xe (some ⟨w.heap.size,0,none⟩) cc _ cur w4 hl4 HC.out.2.1 (by omega) (by omega));rw[HC.out.2.2,hcy] at TR;have hblk5:∃tl2,Blk w4 w.heap.size 90 (U (Nt.digs (y/1000000000))++tl2):=⟨U (cur.drop (Nt.digs (Nt.val cur)).length)++tl,by
   have e:U cur=U (Nt.digs (y/1000000000))++U (cur.drop (Nt.digs (Nt.val cur)).length):=by
    have e0:cur=Nt.digs (Nt.val cur)++cur.drop (Nt.digs (Nt.val cur)).length:=by
     conv=>lhs;rw[<-List.take_append_drop (Nt.digs (Nt.val cur)).length cur,Nt.take_digs HC.out.2.1]
    have e1:=congrArg U e0;rw[show U (Nt.digs (Nt.val cur)++cur.drop (Nt.digs (Nt.val cur)).length)=U (Nt.digs (Nt.val cur))++U (cur.drop (Nt.digs (Nt.val cur)).length) from List.map_append] at e1;rw[<-HC.out.2.2];exact e1
   rw[<-List.append_assoc,<-e];exact hblk4⟩
  obtain⟨tl2,hblk5⟩:=hblk5;have hlq:=HLQ.out;clear hl4 hblk4 hblk3 HC HLQ hcy;obtain⟨A4,C4,rfl,hD1,hD2⟩:=Kb hown4;refine TR.out.mono ?_;rintro e w5 ⟨rfl,rfl⟩;go_wp2_with fail
  refine⟨⟨i+1,y/1000000000,_,tl2,by omega,hlq,Lr,hlq,rfl,hblk5,?_,hb4,HNX⟩,by simp[F3];omega⟩;rw[HNG.out]
  simpa [U] using hown4
theorem Gn:(Tryz.prog.info? 3).map (λi=>(i.zero,i.size,i.bytes))=some (some (.int .i64 0),1,8):=by kernel_rfl
def IsCh (w:World)(v:Value)(l:List Int):Prop:=∃A c,v= .slice A l.length c/\l.length<=c/\c<=9223372036854775807/\Lies w w.heap.size A (Sa l)
theorem IsCh.below {w w':World}{v:Value}{l:List Int}(h:IsCh w v l)(hb:Below w.heap.size w w'):IsCh w' v l:=by
 obtain⟨A,c,h1,h2,h3,h5⟩:=h;exact⟨A,c,h1,h2,h3,(h5.below hb).more hb.size⟩
theorem IsCh.of_own {w:World}{base:Nat}{v:Value}{l:List Int}(h:w.ownsRow base 3 1 v l.length (Sa l)):IsCh w v l:=by
 obtain⟨A,c,rfl,h1,h2⟩:=Kb h;exact⟨A,c,rfl,h1,h2,Lies.of_own h⟩
def Lla (w:World)(l:List Int)(bad:Int)(e:Ending)(w':World):Prop:=∃v,e= .returned (.tuple #[v,.int .i64 bad])/\IsCh w' v l/\Below w.heap.size w w'
theorem Hu (a:List Int)(x:Int):Sa (a++[x])=Sa a++[.int .i64 x]:=by unfold Sa;simp
theorem Yia (s:ByteArray)(i:Nat):(s.extract i s.size).data.toList=s.data.toList.drop i:=by
 simp;exact List.take_of_length_le (by simp)
theorem Iu (s:ByteArray)(w:World)(hs:s.size<=1000000):
 Calls Tryz.prog 26 #[.string s] w (Lla w (Gl.ints (Gl.dec s 0).1) (Gl.badI (Gl.dec s 0).2)):=by
 obtain⟨i0,hi,hz0,hz1,hz2⟩:=info_parts Gn;have HPX:=Qd (λ(t:ByteArray) (wx:World)=>Tryz.strings_HasPrefix t ⟨#[239,191,189]⟩ wx);have hit0:(w.iter s 0).heap[w.heap.size]? =some (.stringIter s 0):=by simp[World.iter_heap]
 have hbi0:Below w.heap.size w (w.iter s 0):=Br.alloc Lr _;have hszi:(w.iter s 0).heap.size=w.heap.size+1:=by simp[World.iter]
 have HI0:=Qd hit0;have HSI:=Qd hszi;clear hit0 hszi;go_enter Tryz.func26,Tryz.ntmps26
 go_wp2_with fail
 go_loopw [4] (λov wr=>∃(pos:Nat) (done:List Nat),Hid (wr.heap[w.heap.size]? =some (.stringIter s pos))/\wr.ownsRow (w.heap.size+1) 3 1 ov done.length (Sa (Gl.ints done))/\Below w.heap.size w wr/\w.heap.size+1<=wr.heap.size/\Hid (Gl.DecAt s pos done)) (λ_ wr=>s.size-wr.iterPos w.heap.size)
 case atStart=>exact⟨0,[],HI0,World.ownsRow_nil _ _ _ _,hbi0,by rw[HSI.out];exact Lr,Qd (Gl.DecAt.start s)⟩
 case round=>
  clear hbi0;obtain⟨pos,done,HIT,hown,hbel,hsz,H⟩:=hrel;have hdl:=H.out.len;have hIP:wr.iterPos w.heap.size=pos:=by unfold World.iterPos;rw[HIT.out]
  have HIP:=Qd hIP;clear hIP;by_cases hp:pos<s.size
  ·have hnx:∀ty,(Instr.next (.pointer (some ⟨w.heap.size,0,none⟩)) true ty).run Tryz.prog wr=_:=λty=>Lib.run_next_any_at wr w.heap.size s pos ty HIT.out hp
   have HPX2:=Qd (by have:=HPX.out (s.extract pos s.size);rw[Yia] at this;exact this);cases hr:Gl.read s pos with
   |none=>
    obtain⟨hd,hpre⟩:=Gl.sub_no hp hr;have HB:=Qd (H.out.bad hp hr);have HPX3:=Qd (λwx=>by have:=HPX2.out wx;rw[hpre] at this;exact this);rw[hd] at hnx;obtain⟨W2,hW2⟩:∃W2,W2=wr.iterAt w.heap.size s (pos+1):=⟨_,rfl⟩;have hown2:W2.ownsRow (w.heap.size+1) 3 1 u4 done.length (Sa (Gl.ints done)):=by
     rw[hW2];exact En hown (λg hg _=>Lib.iterAt_other _ _ _ _ _ (by omega))
    have hbel2:Below w.heap.size w W2:=by rw[hW2];exact Lib.below_iterAt hbel Lr _ _
    have HL:=Qd (IsCh.of_own (by rw[show(Gl.ints done).length=done.length by simp[Gl.ints]];exact hown2));simp only[<-hW2] at hnx;have HNE:Hid (Gl.ints (Gl.dec s 0).1=Gl.ints done/\Gl.badI (Gl.dec s 0).2=(pos:Int)):=Qd (by rw[HB.out];exact⟨rfl,rfl⟩);have hps:pos<=s.size:=by omega
    clear hd hpre hr HPX2 hown hbel hW2 H hown2;go_wp2_with fail
    refine(HPX3.out _).mono ?_;rintro e w' ⟨rfl,rfl⟩;go_wp2_with fail
    go_ret2
    exact⟨_,by rw[HNE.out.2];rfl,by rw[HNE.out.1];exact HL.out,hbel2⟩
   |some p=>
    obtain⟨c,n⟩:=p;obtain⟨hd,hpre⟩:=Gl.sub_yes hp hr;have hpos:=Gl.read_pos hr;have HST:=Qd (H.out.step hp hr);have hmay:=Gl.read_may hp hr;have hc:c<=1114111:=by unfold Gl.may at hmay;simp at hmay;omega
    have HPX3:=Qd (λwx=>by have:=HPX2.out wx;exact this);rw[hd] at hnx;obtain⟨W2,hW2⟩:∃W2,W2=wr.iterAt w.heap.size s (pos+n):=⟨_,rfl⟩;have hown2:W2.ownsRow (w.heap.size+1) 3 1 u4 done.length (Sa (Gl.ints done)):=by
     rw[hW2];exact En hown (λg hg _=>Lib.iterAt_other _ _ _ _ _ (by omega))
    have hbel2:Below w.heap.size w W2:=by rw[hW2];exact Lib.below_iterAt hbel Lr _ _
    have HIT2:Hid (W2.heap[w.heap.size]? =some (.stringIter s (pos+n))):=Qd (by rw[hW2];exact Lib.iterAt_heap _ _ _ _ _ HIT.out);have hsz2:w.heap.size+1<=W2.heap.size:=by rw[hW2,Lib.iterAt_size];exact hsz
    simp only[<-hW2] at hnx;have hps:pos<=s.size:=by omega
    obtain⟨A2,C2,rfl,hC1,hC2⟩:=Kb hown2;have hlen:(Sa (Gl.ints done)).length=done.length:=by simp[Sa,Gl.ints]
    have HAP:Hid (Sa (Gl.ints (done++[c]))=Sa (Gl.ints done)++[.int .i64 (c:Int)]):=Qd (by unfold Gl.ints;rw[List.map_append,List.map_singleton,Hu]);clear hd hr HPX2 hown hbel hW2 H hmay HIT;by_cases hce:c=65533
    ·have hp2:=hpre hce
     have q:((c:Int)==65533)=true:=by rw[hce];rfl
     have HPX4:=Qd (λwx=>by have:=HPX3.out wx;rw[hp2] at this;exact this);clear hce hpre hp2 HPX3;go_wp2_with fail
     refine(HPX4.out _).mono ?_;rintro e w' ⟨rfl,rfl⟩;go_wp2_with (at_builtin;refine wpList_append_own _ rfl _ _ 25 rfl (w.heap.size+1) 3 i0 (.int .i64 0) 1 8 Tryz.underlying25 hi hz0 hz1 hz2 rfl (by decide) _ _ _ rfl (hown2.alloc _) ⟨_,0,none⟩ 1 1 [.int .i64 (c:Int)] rfl rfl (cell_one_new _ _ _) (by intro u hu;simp only[List.mem_singleton] at hu;subst hu;rfl) (by unfold maxLen;omega) (by omega) (by simp;omega) ?_;intro v3 w3 hown3 hgrow3 hnn3)
     have hbel3:Below w.heap.size w w3:=(hbel2.alloc hbel2.size _).grown hgrow3 (by simp;omega) (λk hk=>by have:=(hown2.lt k hk).1;omega);have HIT3:Hid (w3.heap[w.heap.size]? =some (.stringIter s (pos+n))):=Qd (by
      have hlt:=Ib HIT2.out;rw[hgrow3.block w.heap.size (by simp;omega) (λe=>by have:=(hown2.lt _ e.symm).1;omega)];exact(Below.heap_alloc _ _ _ hlt).trans HIT2.out)
     have hsz3:w.heap.size+1<=w3.heap.size:=by have:=hgrow3.size;simp at this;omega
     go_roundw
     case rel=>exact⟨pos+n,done++[c],HIT3,by rw[HAP.out];simpa using hown3,hbel3,hsz3,HST⟩
     case measure=>
      have h1:w3.iterPos w.heap.size=pos+n:=by unfold World.iterPos;rw[HIT3.out]
      have h2:=HIP.out;simp only[h1,h2];omega
    have q:((c:Int)==65533)=false:=beq_eq_false_iff_ne.2 (by omega);clear hce hpre HPX3;go_wp2_with (at_builtin;refine wpList_append_own _ rfl _ _ 25 rfl (w.heap.size+1) 3 i0 (.int .i64 0) 1 8 Tryz.underlying25 hi hz0 hz1 hz2 rfl (by decide) _ _ _ rfl (hown2.alloc _) ⟨_,0,none⟩ 1 1 [.int .i64 (c:Int)] rfl rfl (cell_one_new _ _ _) (by intro u hu;simp only[List.mem_singleton] at hu;subst hu;rfl) (by unfold maxLen;omega) (by omega) (by simp;omega) ?_;intro v3 w3 hown3 hgrow3 hnn3)
    have hbel3:Below w.heap.size w w3:=(hbel2.alloc hbel2.size _).grown hgrow3 (by simp;omega) (λk hk=>by have:=(hown2.lt k hk).1;omega);have HIT3:Hid (w3.heap[w.heap.size]? =some (.stringIter s (pos+n))):=Qd (by
     have hlt:=Ib HIT2.out;rw[hgrow3.block w.heap.size (by simp;omega) (λe=>by have:=(hown2.lt _ e.symm).1;omega)];exact(Below.heap_alloc _ _ _ hlt).trans HIT2.out)
    have hsz3:w.heap.size+1<=w3.heap.size:=by have:=hgrow3.size;simp at this;omega
    go_roundw
    case rel=>exact⟨pos+n,done++[c],HIT3,by rw[HAP.out];simpa using hown3,hbel3,hsz3,HST⟩
    case measure=>
     have h1:w3.iterPos w.heap.size=pos+n:=by unfold World.iterPos;rw[HIT3.out]
     have h2:=HIP.out;simp only[h1,h2];omega
  have hnx:∀ty,(Instr.next (.pointer (some ⟨w.heap.size,0,none⟩)) true ty).run Tryz.prog wr=_:=λty=>Lib.run_next_end_at wr w.heap.size s pos ty HIT.out hp;have HB:=Qd (H.out.done hp);have HNE:Hid (Gl.ints (Gl.dec s 0).1=Gl.ints done/\Gl.badI (Gl.dec s 0).2= -1):=Qd (by rw[HB.out];exact⟨rfl,rfl⟩);have HL:=Qd (IsCh.of_own (by rw[show(Gl.ints done).length=done.length by simp[Gl.ints]];exact hown));clear hown H;go_wp2_with fail
  go_ret2
  exact⟨_,by rw[HNE.out.2];rfl,by rw[HNE.out.1];exact HL.out,hbel⟩
theorem Co {x:Int}(h:Gl.may x=true):Lib.runeCells x=Lib.byteCells (Tk.enc1 x):=by
 unfold Gl.may at h;simp only[Bool.and_eq_true,Bool.or_eq_true,decide_eq_true_eq] at h;obtain⟨⟨h0,h1⟩,h2⟩:=h;obtain⟨n,rfl⟩:∃n:Nat,x=(n:Int):=⟨x.toNat,by omega⟩;unfold Lib.runeCells Lib.byteCells Tk.enc1 Gl.one;rw[Int.toNat_natCast];by_cases a:n<128
 ·rw[if_pos a,Lib.encodeRuneZ_one (by omega) (by omega)]
  simp;omega
 rw[if_neg a];by_cases b:n<2048
 ·rw[if_pos b,Lib.encodeRuneZ_two (by omega) (by omega)]
  simp;omega
 rw[if_neg b];by_cases c:n<65536
 ·rw[if_pos c,Lib.encodeRuneZ_three (by omega)]
  simp;omega
 rw[if_neg c,Lib.encodeRuneZ_four (by omega) (by omega)];simp;omega
theorem Zia (l:List Int)(x:Int):Tk.enc (l++[x])=Tk.enc l++Tk.enc1 x:=by unfold Tk.enc;simp
theorem enc1_len (x:Int):(Tk.enc1 x).length<=4:=by unfold Tk.enc1;rw[List.length_map,Gl.one_len];unfold Gl.wide;split<;>(try omega);split<;>(try omega);split<;>omega
theorem enc_len:∀l:List Int,(Tk.enc l).length<=4*l.length
 | []=>by simp[Tk.enc]
 |a::r=>by
  have h1:=enc1_len a;have h2:=enc_len r;unfold Tk.enc at h2⊢;rw[List.flatMap_cons,List.length_append,List.length_cons];omega
theorem Hma:(Tryz.prog.info? 5).map (λi=>(i.zero,i.size,i.bytes))=some (some (.int .u8 0),1,1):=by kernel_rfl
theorem L3 {w:World}{base:Nat}{v:Value}{t:List UInt8}(h:w.ownsRow base 5 1 v t.length (Lib.byteCells t)):(convert 40 9 v).run Tryz.prog w= .ok (.string ⟨t.toArray⟩) w:=by
 obtain⟨A,C,rfl,hC1,hC2⟩:=Kb h;have hl:=Lies.of_own h;by_cases h0:t=[]
 ·subst h0
  cases A with
  |none=>rw[run_convert_bytes_string w 40 9 5 none _ _ Tryz.underlying40 Tryz.underlying5 Tryz.underlying9];rfl
  |some a=>exact run_convert_bytes_back w 40 9 5 a C [] Tryz.underlying40 Tryz.underlying5 Tryz.underlying9 (λj hj=>by cases hj)
 have hp:0<t.length:=List.length_pos_iff.2 h0;obtain⟨b,off,hA,hb,g0⟩:=hl.at_ (k:=0) (by rw[Lib.byteCells_length];exact hp);subst hA;refine run_convert_bytes_back w 40 9 5 _ C t Tryz.underlying40 Tryz.underlying5 Tryz.underlying9 (λj hj=>?_);obtain⟨b',off',hA',hb',g'⟩:=hl.at_ (k:=j) (by rw[Lib.byteCells_length];exact hj);injection hA' with hA'
 injection hA' with e1 e2
 subst e1 e2;rw[Addr.add_lit,g'];simp[Lib.byteCells]
theorem Hn (A:Option Addr)(c:Nat)(l:List Int)(w:World)(hl:Lies w w.heap.size A (Sa l))(hn:l.length<=1000000)(hm:∀x∈l,Gl.may x=true):
 Calls Tryz.prog 68 #[.slice A l.length c] w λe w'=>e= .returned (.tuple #[.string ⟨(Tk.enc l).toArray⟩,.bool true])/\Below w.heap.size w w':=by
 obtain⟨i0,hi,hz0,hz1,hz2⟩:=info_parts Hma;have HL:=Qd hl;have HM:=Qd hm;clear hl hm;go_enter Tryz.func68,Tryz.ntmps68
 go_wp2_with (at_make;refine Ad _ rfl _ _ 40 rfl 5 i0 (.int .u8 0) Tryz.underlying40 hi hz0 hz1 rfl .i64 .i64 _ _ 0 l.length rfl rfl rfl rfl (by omega) (by rw[hz2];omega) (by omega) w.heap.size w Br Lr ?_;intro w2 hblk2 hb2 hb2' hlt2)
 have hown2:w2.ownsRow w.heap.size 5 1 (.slice (some ⟨w.heap.size,0,none⟩) 0 l.length) 0 []:=by
  have:=hblk2.own (base:=w.heap.size) (n:=0) Lr (by omega) (by simp[maxLen];omega)
  simpa using this
 clear hblk2 hb2' hlt2;go_loopw [4,12] (λov iv wr=>∃i:Nat,i<=l.length/\iv= .int .i64 (i:Int)/\wr.ownsRow w.heap.size 5 1 ov (Tk.enc (l.take i)).length (Lib.byteCells (Tk.enc (l.take i)))/\Below w.heap.size w wr) (λ_ iv _=>l.length-(intOf iv).toNat)
 case atStart=>exact⟨0,Nat.zero_le _,rfl,hown2,hb2⟩
 case round=>
  clear hown2 hb2;obtain⟨i,hil,rfl,hown,hbel⟩:=hrel;have hsz:=hbel.size;by_cases hlt:i<l.length
  ·obtain⟨b,off,rfl,hb,g0⟩:=Hb (HL.out.below hbel) hlt
   have hmx:=HM.out l[i] (List.getElem_mem hlt);have HT:Hid (Tk.enc (l.take (i+1))=Tk.enc (l.take i)++Tk.enc1 l[i]):=Qd (by rw[List.take_succ_eq_append_getElem hlt,Zia]);have HRC:=Qd (Co hmx);have hel:=enc_len (l.take i);have htl:(l.take i).length<=i:=List.length_take_le _ _;obtain⟨x,hx⟩:∃x,x=l[i]:=⟨_,rfl⟩;rw[<-hx] at g0 hmx HT HRC;have MY:=F8 x;rw[hmx] at MY;have HMY:=Qd MY;have hx0:0<=x:=by unfold Gl.may at hmx;simp at hmx;omega
   have hx1:x<=1114111:=by unfold Gl.may at hmx;simp at hmx;omega
   obtain⟨T,hT⟩:∃T,T=Tk.enc (l.take i):=⟨_,rfl⟩;rw[<-hT] at hown HT hel;have AR:=Qd (λ(h:wr.ownsRow w.heap.size 5 1 u4 T.length (Lib.byteCells T))=>Tryz.utf8_AppendRune_plain w.heap.size u4 T.length (Lib.byteCells T) x (by omega) (by omega) wr h (by omega) hsz);have AR2:=Qd (AR.out hown);have HOW:=Qd hown;obtain⟨A2,C2,rfl,hC1,hC2⟩:=Kb hown;clear hx MY hmx hT AR hown;go_wp2_with fail
   refine(HMY.out _).mono ?_;rintro e w' ⟨rfl,rfl⟩;go_wp2_with fail
   refine AR2.out.mono ?_;rintro e w3 ⟨v3,rfl,hown3,o,hgr⟩;have hbel3:Below w.heap.size w w3:=(hbel.alloc hsz o).grown hgr (by simp;omega) (λk hk=>(HOW.out.lt k hk).1);have hown4:w3.ownsRow w.heap.size 5 1 v3 (Tk.enc (l.take (i+1))).length (Lib.byteCells (Tk.enc (l.take (i+1)))):=by
    rw[HT.out,List.length_append,Lib.byteCells_append,<-HRC.out,<-Lib.byteCells_length (Tk.enc1 x),<-HRC.out];exact hown3
   clear hown3 hgr AR2;go_wp2_with fail
   go_roundw
   case rel=>exact⟨i+1,by omega,by go_num,hown4,hbel3⟩
   case measure=>simp[intOf];omega
  have e:l.take i=l:=List.take_of_length_le (by omega);rw[e] at hown;have hcv:=L3 hown;obtain⟨A2,C2,rfl,hC1,hC2⟩:=Kb hown;clear hown e;go_wp2_with fail
  go_ret2
  exact⟨rfl,hbel⟩
theorem Aja:(Tryz.prog.info? 54).map (·.size)=some 8:=by kernel_rfl
def Ge (k:Int)(neg:Bool)(n1 n2 lv:Value)(s:List UInt8)(c a:Int):List Value:=[.int .i64 k,.bool neg,n1,n2,lv,.string ⟨s.toArray⟩,.int .i64 c,.int .i64 a]
def Og (w:World)(t:Tk.Tok)(en:Nat)(er:Int)(e:Ending)(w':World):Prop:=
 ∃n1 n2 lv,e= .returned (.tuple #[.agg (Ge t.kind t.n.neg n1 n2 lv t.s t.c 0).toArray,.int .i64 (en:Int),.int .i64 er])/\IsRes w' n1 t.n.top/\IsRes w' n2 t.n.bot/\w'.ownsRow 0 3 1 lv t.l.length (Sa t.l)/\Below w.heap.size w w'
theorem Wk (p:Int->Bool):∀(l:List Int) (j:Nat),p (-1)=false->j<=(l.takeWhile p).length->(p (l.getD j (-1))=true↔j<(l.takeWhile p).length)
 | [],j,hp,h=>by
  have:j=0:=by simpa using h
  subst this;simp[hp]
 |a::r,0,hp,h=>by
  rw[List.takeWhile_cons];cases ha:p a<;>simp[ha]
 |a::r,j+1,hp,h=>by
  rw[List.takeWhile_cons] at h⊢;cases ha:p a
  ·rw[ha] at h;simp at h
  rw[ha] at h;simp only[if_true,List.length_cons] at h⊢;have:=Wk p r j hp (by omega);rw[show(a::r).getD (j+1) (-1)=r.getD j (-1) from rfl,this];omega
theorem Bx (l:List Int)(i j:Nat):(l.drop i).getD j (-1)=l.getD (i+j) (-1):=by
 rw[List.getD_eq_getElem?_getD,List.getD_eq_getElem?_getD,List.getElem?_drop]
theorem Bja {l:List Int}{i j:Nat}(h:j<=Tk.words l i):Tk.word (l.getD (i+j) (-1))=true↔j<Tk.words l i:=by
 unfold Tk.words at h⊢;rw[<-Bx];exact Wk _ _ _ (by decide) h
theorem figures_at {l:List Int}{i j:Nat}(h:j<=Tk.figures l i):Tk.digit (l.getD (i+j) (-1))=true↔j<Tk.figures l i:=by
 unfold Tk.figures at h⊢;rw[<-Bx];exact Wk _ _ _ (by decide) h
theorem M3 {w:World}{B:Nat}{A:Option Addr}{l:List Int}(h:Lies w B A (Sa l))(i n:Nat)(hin:i+n<=l.length):∀A',(∀b off,A=some ⟨b,off,none⟩->A'=some ⟨b,off+i,none⟩)->Lies w B A' (Sa ((l.drop i).take n)):=by
 intro A' hA';by_cases h0:n=0
 ·subst h0
  simp only[List.take_zero];exact .inl rfl
 obtain⟨b,off,e,hb,g0⟩:=Hb h (k:=i) (by omega);refine .inr ⟨b,off+i,hA' b off e,hb,λk v hv=>?_⟩;have hk:k<n:=by
  rcases Nat.lt_or_ge k n with h' |h'
  ·exact h'
  rw[List.getElem?_eq_none (by simp[Sa];omega)] at hv;cases hv
 obtain⟨b',off',e',hb',g'⟩:=Hb h (k:=i+k) (by omega);rw[e] at e';injection e' with e'
 injection e' with e1 e2
 subst e1 e2;rw[show off+i+k=off+(i+k) by omega,g'];rw[<-hv];unfold Sa;rw[List.getElem?_map,List.getElem?_take,if_pos hk,List.getElem?_drop,List.getElem?_eq_getElem (by omega)];rfl
section
open Go.RowKit
def Vc (w:World)(l:List Int)(i:Nat):Ending->World->Prop:=Og w (Tk.read l i).1 (if(Tk.read l i).2.2=0 then i+(Tk.read l i).2.1 else 0) (Tk.read l i).2.2
theorem Ima (k c a:Int)(neg:Bool)(a1 a2 a3:Option Addr)(m1 c1 m2 c2 m3 c3:Nat)(s:ByteArray):(#[.int .i64 k,.bool neg,.slice a1 m1 c1,.slice a2 m2 c2,.slice a3 m3 c3,.string s,.int .i64 c,.int .i64 a]:Array Value).all (·.oneCell')=true:=by
 simp[Value.oneCell']
theorem Np (x0 x1 x2 x3 x4 x5 x6 x7:Value):(Tryz.prog.info? 54).map (·.size)=some (#[x0,x1,x2,x3,x4,x5,x6,x7]:Array Value).size:=Aja
theorem Yb {P:Program}{fn:Func}{p q r:Tmp}{ty:TypeId}(h:fn.results= #[.cell p ty,.tmp q,.tmp r])(tmps:Array Value)(w:World)(g:Nat)(t:TypeId)(cs:Array Value)(fr:Nat×Nat)(d:TypeDesc)(u v:Value)
 (hp:tmps.getD p undef= .pointer (some ⟨g,0,none⟩)) (hq:tmps.getD q undef=u) (hr:tmps.getD r undef=v) (hg:w.heap[g]? =some (.cells cs t fr))
 (hu:P.underlying ty=some d) (hd:(match d with | .struct _ | .array _ _=>true |_=>false)=true) (hi:(P.info? ty).map (·.size)=some cs.size):
 (results fn tmps).run P w= .ok (.tuple #[.agg cs,u,v]) w:=by
 have hp':tmps[p]?.getD undef= .pointer (some ⟨g,0,none⟩):=by simpa using hp
 have hq':tmps[q]?.getD undef=u:=by simpa using hq
 have hr':tmps[r]?.getD undef=v:=by simpa using hr
 simp[results,h,hp',hq',hr',asAddr,run_loadVar_row w g t ty cs fr d hg hu hd hi]
section
variable {ops : Array Oper} {rest : List Oper} {o : Oper} {a : Act} {w : World} {Q : Exit -> Act -> World -> Prop} {k c d : Int} {n : Bool} {A1 A2 A3 : Option Addr} {n1 n2 n3 c1 c2 c3 : Nat} {m : ByteArray} {u0 u1 u2 u3 u4 u5 u6 u7 x y : Value} {fn : Func} {p q r : Tmp} {R : Ending -> World -> Prop}
theorem Hg (hgd:o.guard=none)(x y:Operand)(ho:o.op= .store 54 x y)(g:Nat)(hx:a.eval x= .pointer (some ⟨g,0,none⟩))(hy:a.eval y= .agg #[.int .i64 k,.bool n,.slice A1 n1 c1,.slice A2 n2 c2,.slice A3 n3 c3,.string m,.int .i64 c,.int .i64 d])(hg:w.heap[g]? =some (.cells #[u0,u1,u2,u3,u4,u5,u6,u7] 54 (0,0)))
 (h:wpList Tryz.prog ops Q rest (a.put o.dst undef) (w.setRow g #[.int .i64 k,.bool n,.slice A1 n1 c1,.slice A2 n2 c2,.slice A3 n3 c3,.string m,.int .i64 c,.int .i64 d])):wpList Tryz.prog ops Q (o::rest) a w:=
 wpList_store_row hgd _ x y ho g _ hx hy _ _ hg (Np _ _ _ _ _ _ _ _) rfl (Ima _ _ _ _ _ _ _ _ _ _ _ _ _ _) h
theorem M9 (hgd:o.guard=none)(x:Operand)(ho:o.op= .load 54 x)(g:Nat)(hx:a.eval x= .pointer (some ⟨g,0,none⟩))(hg:w.heap[g]? =some (.cells #[u0,u1,u2,u3,u4,u5,u6,u7] 54 (0,0)))
 (h:wpList Tryz.prog ops Q rest (a.put o.dst (.agg #[u0,u1,u2,u3,u4,u5,u6,u7])) w):wpList Tryz.prog ops Q (o::rest) a w:=
 wpList_load_row hgd _ x ho g hx _ _ _ _ hg Tryz.underlying54 rfl (Np _ _ _ _ _ _ _ _) h
theorem Of {g:Nat}{old:Array Value}(h:fn.results= #[.cell p 54,.tmp q,.tmp r])(hp:a.tmps.getD p undef= .pointer (some ⟨g,0,none⟩))(hq:a.tmps.getD q undef=x)(hr:a.tmps.getD r undef=y)(hd:a.defers=[])(hg:w.heap[g]? =some (.cells old 54 (0,0)))
 (hR:R (.returned (.tuple #[.agg #[.int .i64 k,.bool n,.slice A1 n1 c1,.slice A2 n2 c2,.slice A3 n3 c3,.string m,.int .i64 c,.int .i64 d],x,y])) (w.setRow g #[.int .i64 k,.bool n,.slice A1 n1 c1,.slice A2 n2 c2,.slice A3 n3 c3,.string m,.int .i64 c,.int .i64 d])):bodyPost Tryz.prog fn R .ret a (w.setRow g #[.int .i64 k,.bool n,.slice A1 n1 c1,.slice A2 n2 c2,.slice A3 n3 c3,.string m,.int .i64 c,.int .i64 d]):=
 bodyPost_ret (Yb h _ _ g _ _ (0,0) _ _ _ hp hq hr (Eb hg) Tryz.underlying54 rfl (Np _ _ _ _ _ _ _ _)) hd hR
end
theorem Vfa {l:List Int}{i:Nat}(hc:Tk.cls (l.getD i (-1))=2):Tk.read l i=if 16<Tk.words l i then(Tk.none_,0,1) else(⟨if l.getD i (-1)<=90 then 3 else 2,Rt.none_,[],Tk.enc ((l.drop i).take (Tk.words l i)),0,i⟩,Tk.words l i,0):=by
 unfold Tk.read;simp only;rw[if_neg (by rw[hc];decide),if_pos hc]
theorem Mba {x:Int}(h:Tk.cls x=2):65<=x/\(x<=90\/90<x):=by
 unfold Tk.cls at h
 split at h
 ·cases h
 split at h
 ·omega
 exfalso
 repeat' split at h
 all_goals (first|cases h |omega)
theorem Cja (A:Option Addr)(c:Nat)(l:List Int)(i:Nat)(w:World)(hl:Lies w w.heap.size A (Sa l))(hn:l.length<=100000)(hcap:l.length<=c)(hm:∀x∈l,Gl.may x=true)(hi:i<l.length)(hc:Tk.cls (l.getD i (-1))=2):
 Calls Tryz.prog 82 #[.slice A l.length c,.int .i64 (i:Int)] w (Vc w l i):=by
 have HRD:=Qd (Vfa hc);have HR:Hid (∀e w',Og w (Tk.read l i).1 (if(Tk.read l i).2.2=0 then i+(Tk.read l i).2.1 else 0) (Tk.read l i).2.2 e w'->Vc w l i e w'):=Qd (λe w' h=>h);obtain⟨W,hW⟩:∃W,W=w.alloc (.cells #[.int .i64 0,.bool false,.slice none 0 0,.slice none 0 0,.slice none 0 0,.string ⟨#[]⟩,.int .i64 0,.int .i64 0] 54):=⟨_,rfl⟩;have hb0:Below w.heap.size w W:=by rw[hW];exact Br.alloc Lr _
 have HGA:Hid (W.heap[w.heap.size]? =some (.cells #[.int .i64 0,.bool false,.slice none 0 0,.slice none 0 0,.slice none 0 0,.string ⟨#[]⟩,.int .i64 0,.int .i64 0] 54 (0,0))):=Qd (by rw[hW];exact heap_alloc_new w _);have HWS:Hid (W.heap.size=w.heap.size+1):=Qd (by rw[hW];simp);have hlW:Lies W W.heap.size A (Sa l):=(hl.below hb0).more hb0.size;have LT:=Qd (λ(m:Nat) (h:m<=1000000)=>Tm A c l m W hlW (by omega) h);have DG:=Qd (λ(m:Nat) (h:m<=1000000)=>Qo A c l m W hlW (by omega) h);have hwl:=Tk.words_le l i;have HWA:=Qd (λ(j:Nat) (h:j<=Tk.words l i)=>Bja (l:=l) (i:=i) h);have HWP:Hid (0<Tk.words l i):=Qd (Tk.words_pos hi (by unfold Tk.word;rw[hc];simp));have HL:=Qd hlW;have HM:=Qd hm;have HC:=Qd hc;have HW:Hid (W=w.alloc (.cells #[.int .i64 0,.bool false,.slice none 0 0,.slice none 0 0,.slice none 0 0,.string ⟨#[]⟩,.int .i64 0,.int .i64 0] 54)):=Qd hW;obtain⟨n,hnw⟩:∃n,n=Tk.words l i:=⟨_,rfl⟩;rw[<-hnw] at HRD hwl HWA HWP;have HNW:=Qd hnw;clear hl hlW hm hc hW hnw;go_enter Tryz.func82,Tryz.ntmps82
 go_upto_region 1 with fail
 rw[<-HW.out];go_wp2_with fail
 go_loop [7] (λev=>∃m:Nat,i<=m/\m<=i+n/\ev= .int .i64 (m:Int)) (λev=>i+n-(intOf ev).toNat)
 case atStart=>exact⟨i,Lr,by omega,rfl⟩
 case round=>
  obtain⟨m,hm1,hm2,rfl⟩:=hrel;have hwat:=HWA.out (m-i) (by omega);rw[show i+(m-i)=m by omega] at hwat;have LT2:=LT.out m (by omega);have DG2:=DG.out m (by omega);unfold Tk.word at hwat;generalize(Tk.cls (l.getD m (-1))==2)=b1 at*;generalize Tk.digit (l.getD m (-1))=b2 at*;have HLT2:=Qd LT2;have HDG2:=Qd DG2;clear LT2 DG2;by_cases hlt:m<i+n
  ·have hb:(b2||b1)=true:=hwat.2 (by omega)
   clear hwat;cases b1
   ·have hb2:b2=true:=by simpa using hb
    subst hb2;clear hb;go_wp2_with fail
    refine HLT2.out.mono ?_;rintro e w' ⟨rfl,rfl⟩;go_wp2_with fail
    refine HDG2.out.mono ?_;rintro e w' ⟨rfl,rfl⟩;go_wp2_with fail
    go_round
    case rel=>exact⟨m+1,by omega,by omega,by go_num⟩
    case measure=>simp[intOf];omega
   clear hb;go_wp2_with fail
   refine HLT2.out.mono ?_;rintro e w' ⟨rfl,rfl⟩;go_wp2_with fail
   go_round
   case rel=>exact⟨m+1,by omega,by omega,by go_num⟩
   case measure=>simp[intOf];omega
  have hb:(b2||b1)=false:=by
   rw[Bool.eq_false_iff];intro h;exact hlt (by have:=hwat.1 h;omega)
  obtain⟨hb2,hb1⟩:b2=false/\b1=false:=by cases b2<;>cases b1<;>simp at hb⊢
  subst hb1 hb2;obtain rfl:m=i+n:=by omega
  clear hb hwat hlt hm1 hm2;have hmi:((i+n:Nat):Int)-(i:Int)=(n:Int):=by omega
  go_wp2_with fail
  refine HLT2.out.mono ?_;rintro e w' ⟨rfl,rfl⟩;go_wp2_with fail
  refine HDG2.out.mono ?_;rintro e w' ⟨rfl,rfl⟩;clear HLT2 HDG2 LT DG;by_cases h16:16<n
  ·have q16:decide (16<(n:Int))=true:=decide_eq_true (by omega)
   have HRE:Hid (Tk.read l i=(Tk.none_,0,1)):=Qd (by rw[HRD.out,if_pos h16]);go_wp2_with (with_reducible refine Hg rfl (.tmp 4) (.tmp 24) rfl w.heap.size rfl rfl HGA.out ?_)
   refine Of (by rfl) (by rfl) (by rfl) (by rfl) rfl HGA.out (HR.out _ _ ?_);rw[HRE.out];exact⟨_,_,_,rfl,Ga _,Ga _,World.ownsRow_nil _ _ _ _,rBelow.setRow hb0 Lr _⟩
  have q16:decide (16<(n:Int))=false:=decide_eq_false (by omega);obtain⟨x,hx⟩:∃x,x=l.getD i (-1):=⟨_,rfl⟩;have HRE:Hid (Tk.read l i=(⟨if x<=90 then 3 else 2,Rt.none_,[],Tk.enc ((l.drop i).take n),0,i⟩,n,0)):=Qd (by rw[HRD.out,if_neg h16,hx]);obtain⟨W2,hW2⟩:∃W2,W2=W.alloc (.cells #[.int .i64 2,.bool false,.slice none 0 0,.slice none 0 0,.slice none 0 0,.string ⟨#[]⟩,.int .i64 0,.int .i64 0] 54):=⟨_,rfl⟩;have hbW:Below W.heap.size W W2:=by rw[hW2];exact Br.alloc Lr _
  have HB2:Hid (Blk W2 W.heap.size 54 [.int .i64 2,.bool false,.slice none 0 0,.slice none 0 0,.slice none 0 0,.string ⟨#[]⟩,.int .i64 0,.int .i64 0]):=Qd (by rw[hW2];exact Blk.new W _ _);have HW2:=Qd hW2;have hcr:=Mba (show Tk.cls x=2 by rw[hx];exact HC.out);obtain⟨b,off,rfl,hb,g0⟩:=Hb (HL.out.below hbW) hi;rw[<-Tk.getD_in hi,<-hx] at g0;have HXV:=Qd hx;clear hx hW2;go_upto_region 7 with fail
  rw[<-HW2.out];have hx65:65<=x:=hcr.1;have HL2:Hid (Lies W W.heap.size (some ⟨b,off+i,none⟩) (Sa ((l.drop i).take n))):=Qd (M3 HL.out i n (by omega) _ (λb' off' e=>by injection e with e;injection e with e1 e2;subst e1 e2;rfl));have EN:=Qd (λ(wx:World) (h:Below W.heap.size W wx) (c':Nat)=>Hn (some ⟨b,off+i,none⟩) c' ((l.drop i).take n) wx ((HL2.out.below h).more h.size) (by simp;omega) (λy hy=>HM.out y (List.mem_of_mem_drop (List.mem_of_mem_take hy))));have hlen:((l.drop i).take n).length=n:=by simp;omega
  rw[hlen] at EN;have HBW:=Qd hbW;by_cases h90:x<=90
  ·rw[if_pos h90] at HRE
   have hcell:W2.cell? ⟨W.heap.size,0,none⟩=some (.int .i64 2):=HB2.out.cell rfl;have hfroz:W2.frozen? ⟨W.heap.size,0,none⟩=false:=HB2.out.frozen 0;have HB3:Hid (Blk (W2.setCell ⟨W.heap.size,0,none⟩ (.int .i64 3)) W.heap.size 54 [.int .i64 3,.bool false,.slice none 0 0,.slice none 0 0,.slice none 0 0,.string ⟨#[]⟩,.int .i64 0,.int .i64 0]):=Qd (HB2.out.set_ 0 _);have HBW3:Hid (Below W.heap.size W (W2.setCell ⟨W.heap.size,0,none⟩ (.int .i64 3))):=Qd (HBW.out.setCell Lr _);go_wp2_with fail
   refine(EN.out _ HBW3.out _).mono ?_;rintro e w3 ⟨rfl,hb3⟩;have HBW4:Hid (Below W.heap.size W w3):=Qd (HBW3.out.trans (hb3.mono (Nat.le_of_lt HB3.out.lt)));have HB4:Hid (Blk w3 W.heap.size 54 [.int .i64 3,.bool false,.slice none 0 0,.slice none 0 0,.slice none 0 0,.string ⟨#[]⟩,.int .i64 0,.int .i64 0]):=Qd (HB3.out.keep hb3 HB3.out.lt);have hcell5:w3.cell? ⟨W.heap.size,5,none⟩=some (.string ⟨#[]⟩):=HB4.out.cell rfl;have hfroz5:w3.frozen? ⟨W.heap.size,5,none⟩=false:=HB4.out.frozen 5;have HB5:Hid (Blk (w3.setCell ⟨W.heap.size,5,none⟩ (.string ⟨(Tk.enc ((l.drop i).take n)).toArray⟩)) W.heap.size 54 [.int .i64 3,.bool false,.slice none 0 0,.slice none 0 0,.slice none 0 0,.string ⟨(Tk.enc ((l.drop i).take n)).toArray⟩,.int .i64 0,.int .i64 0]):=Qd (HB4.out.set_ 5 _);have HBW5:Hid (Below W.heap.size W (w3.setCell ⟨W.heap.size,5,none⟩ (.string ⟨(Tk.enc ((l.drop i).take n)).toArray⟩))):=Qd (HBW4.out.setCell Lr _);have HG5:Hid ((w3.setCell ⟨W.heap.size,5,none⟩ (.string ⟨(Tk.enc ((l.drop i).take n)).toArray⟩)).heap[w.heap.size]? =some (.cells #[.int .i64 0,.bool false,.slice none 0 0,.slice none 0 0,.slice none 0 0,.string ⟨#[]⟩,.int .i64 0,.int .i64 0] 54 (0,0))):=Qd ((HBW5.out.block w.heap.size (by rw[HWS.out];omega)).trans HGA.out);have HG6:Hid ((w3.setCell ⟨W.heap.size,5,none⟩ (.string ⟨(Tk.enc ((l.drop i).take n)).toArray⟩)).heap[W.heap.size]? =some (.cells #[.int .i64 3,.bool false,.slice none 0 0,.slice none 0 0,.slice none 0 0,.string ⟨(Tk.enc ((l.drop i).take n)).toArray⟩,.int .i64 0,.int .i64 0] 54 (0,0))):=HB5;clear hb3 EN;go_wp2_with (first|(with_reducible refine M9 rfl (.tmp 8) rfl W.heap.size rfl HG6.out ?_) |(with_reducible refine Hg rfl (.tmp 4) (.tmp 48) rfl w.heap.size rfl rfl HG5.out ?_))
   refine Of (by rfl) (by rfl) (by rfl) (by rfl) rfl HG5.out (HR.out _ _ ?_);rw[HRE.out];exact⟨_,_,_,rfl,Ga _,Ga _,World.ownsRow_nil _ _ _ _,rBelow.setRow (hb0.trans (HBW5.out.mono (by rw[HWS.out];omega))) Lr _⟩
  have q90:decide (x<=90)=false:=decide_eq_false h90;rw[if_neg h90] at HRE;have HB3:=HB2;have HBW3:=HBW;go_wp2_with fail
  refine(EN.out _ HBW3.out _).mono ?_;rintro e w3 ⟨rfl,hb3⟩;have HBW4:Hid (Below W.heap.size W w3):=Qd (HBW3.out.trans (hb3.mono (Nat.le_of_lt HB3.out.lt)));have HB4:Hid (Blk w3 W.heap.size 54 [.int .i64 2,.bool false,.slice none 0 0,.slice none 0 0,.slice none 0 0,.string ⟨#[]⟩,.int .i64 0,.int .i64 0]):=Qd (HB3.out.keep hb3 HB3.out.lt);have hcell5:w3.cell? ⟨W.heap.size,5,none⟩=some (.string ⟨#[]⟩):=HB4.out.cell rfl;have hfroz5:w3.frozen? ⟨W.heap.size,5,none⟩=false:=HB4.out.frozen 5;have HB5:Hid (Blk (w3.setCell ⟨W.heap.size,5,none⟩ (.string ⟨(Tk.enc ((l.drop i).take n)).toArray⟩)) W.heap.size 54 [.int .i64 2,.bool false,.slice none 0 0,.slice none 0 0,.slice none 0 0,.string ⟨(Tk.enc ((l.drop i).take n)).toArray⟩,.int .i64 0,.int .i64 0]):=Qd (HB4.out.set_ 5 _);have HBW5:Hid (Below W.heap.size W (w3.setCell ⟨W.heap.size,5,none⟩ (.string ⟨(Tk.enc ((l.drop i).take n)).toArray⟩))):=Qd (HBW4.out.setCell Lr _);have HG5:Hid ((w3.setCell ⟨W.heap.size,5,none⟩ (.string ⟨(Tk.enc ((l.drop i).take n)).toArray⟩)).heap[w.heap.size]? =some (.cells #[.int .i64 0,.bool false,.slice none 0 0,.slice none 0 0,.slice none 0 0,.string ⟨#[]⟩,.int .i64 0,.int .i64 0] 54 (0,0))):=Qd ((HBW5.out.block w.heap.size (by rw[HWS.out];omega)).trans HGA.out);have HG6:Hid ((w3.setCell ⟨W.heap.size,5,none⟩ (.string ⟨(Tk.enc ((l.drop i).take n)).toArray⟩)).heap[W.heap.size]? =some (.cells #[.int .i64 2,.bool false,.slice none 0 0,.slice none 0 0,.slice none 0 0,.string ⟨(Tk.enc ((l.drop i).take n)).toArray⟩,.int .i64 0,.int .i64 0] 54 (0,0))):=HB5;clear hb3 EN;go_wp2_with (first|(with_reducible refine M9 rfl (.tmp 8) rfl W.heap.size rfl HG6.out ?_) |(with_reducible refine Hg rfl (.tmp 4) (.tmp 48) rfl w.heap.size rfl rfl HG5.out ?_))
  refine Of (by rfl) (by rfl) (by rfl) (by rfl) rfl HG5.out (HR.out _ _ ?_);rw[HRE.out];exact⟨_,_,_,rfl,Ga _,Ga _,World.ownsRow_nil _ _ _ _,rBelow.setRow (hb0.trans (HBW5.out.mono (by rw[HWS.out];omega))) Lr _⟩
end
def Jma (w:World)(n:Nat)(e:Ending)(w':World):Prop:=∃v,e= .returned v/\IsRes w' v (Nt.digs n)/\Below w.heap.size w w'
theorem Ly {s:List UInt8}{w w':World}{e:Ending}(h:NatTold s w e w')(hv:Ten.Valid s):∃v,e= .returned (.tuple #[v,.bool true])/\IsRes w' v (Nt.digs (Ten.numOf s))/\Below w.heap.size w w':=by
 obtain⟨hb,v,ok,n,rfl,hr,hc⟩:=h;rcases hc with⟨rfl,_,rfl⟩ |⟨_,h2,_⟩
 ·exact⟨v,rfl,hr,hb⟩
 exact absurd hv h2
theorem Fh (s:List UInt8)(w:World)(hs:s.length<=1000)(hd:∀b∈s,Ten.isDig b):
 Calls Tryz.prog 167 #[.string ⟨s.toArray⟩] w (Jma w (Ten.numOf s)):=by
 have TL:=Tryz.strings_TrimLeft_one ⟨s.toArray⟩ 48 (by decide) w;rw[show(⟨s.toArray⟩:ByteArray).data.toList=s from rfl,show Lib.trimLeftB s 48=Dg.strip s from rfl] at TL;have hl:=Dg.strip_len s;have HV:=Qd (λh=>Dg.strip_valid hd h);have HN:=Qd (Dg.numOf_strip s);have HZ:=Qd (λh=>Dg.strip_nil (s:=s) h);generalize Dg.strip s=t at*;have HTL:=Qd TL;clear TL hd;by_cases h0:t=[]
 ·have hz:=HZ.out h0
  have hemp:t.isEmpty=true:=by rw[h0];rfl
  have HZ2:=Qd hz;subst h0;clear hz HV HN HZ;go_enter Tryz.func167,Tryz.ntmps167
  go_wp2_with fail
  refine HTL.out.mono ?_;rintro e w' ⟨rfl,rfl⟩;go_wp2_with fail
  go_ret;exact⟨_,rfl,by rw[HZ2.out,Nt.digs_zero];exact IsRes.none_ _,Br⟩
 have hemp:t.isEmpty=false:=by cases t with |nil=>exact absurd rfl h0 |cons a r=>rfl
 have h1:¬t=[]:=h0;have PA:=Qd (λ(wx:World)=>Qfa t wx (by omega));have HV2:=Qd (HV.out h0);clear HZ HV;go_enter Tryz.func167,Tryz.ntmps167
 go_wp2_with fail
 refine HTL.out.mono ?_;rintro e w' ⟨rfl,rfl⟩;go_wp2_with fail
 refine(PA.out _).mono ?_;rintro e w2 hnt;obtain⟨v,rfl,hr,hb⟩:=Ly hnt HV2.out;have HR:=Qd hr;clear hnt hr;go_wp2_with fail
 go_ret;exact⟨_,rfl,by rw[<-HN.out];exact HR.out,hb⟩
theorem Dja (s:List UInt8)(n:Nat):(⟨s.toArray⟩:ByteArray).extract n s.length=⟨(s.drop n).toArray⟩:=by
 apply ByteArray.ext
 simp;exact List.take_of_length_le (by simp)
theorem N3 (s:List UInt8)(n:Nat)(h:n<=s.length):(⟨s.toArray⟩:ByteArray).extract 0 n=⟨(s.take n).toArray⟩:=by
 apply ByteArray.ext
 simp
def SkipAt (s:List UInt8)(k:Nat):Prop:=∀i (hi:i<s.length),i<k->s[i]=48
theorem SkipAt.step {s:List UInt8}{k:Nat}(h:SkipAt s k)(hk:k<s.length)(he:s[k]=48):SkipAt s (k+1):=λi hi hik=>by
 by_cases e:i=k
 ·subst e;exact he
 exact h i hi (by omega)
theorem SkipAt.done {s:List UInt8}{k:Nat}(h:SkipAt s k)(hd:∀b∈s,Ten.isDig b)(hk:k<s.length)(hn:k+1<s.length->s[k]≠48):Ten.Valid (s.drop k)/\Ten.numOf (s.drop k)=Ten.numOf s:=⟨Dg.valid_drop hd hk hn,Dg.numOf_drop h (by omega)⟩
theorem Pf (a b:List Nat):U (a++b)=U a++U b:=by simp[U]
theorem Nba (G c c' T j n:Nat)(A':Option Addr)(P a Q d:List Nat)(w:World)(hblk:Blk w G 90 (U (P++(a++Q))))(hP:P.length=j)(hy:Lies w G A' (U d))(ha:Nt.Ok a)(hd:Nt.Ok d)(hla:a.length=n+1)(hld:d.length=n)(hc:n+1<=c)(hc':n<=c')(hm:c<=9223372036854775807)(hm':c'<=9223372036854775807)(hT:T<4294967296)(hs:n<=1000000):
 Calls Tryz.prog 217 #[.slice (some ⟨G,j,none⟩) (n+1) c,.slice A' n c',.int .u64 (T:Int)] w λe w'=>∃(win:List Nat) (b:Nat),e= .returned (.bool (decide (b=1)))/\b<=1/\Blk w' G 90 (U (P++(win++Q)))/\Hid (win.length=n+1/\Nt.Ok win/\Nt.val win+T*Nt.val d=Nt.val a+b*4294967296^(n+1))/\w.grownBy w' (some G):=by
 subst hld;subst hP;rw[Pf,Pf] at hblk;have h:=D6 G c c' T A' (U P) (U Q) a d w hblk hy ha hd hla hc hc' hm hm' hT hs;rw[Ig] at h;refine h.mono ?_;rintro e w' ⟨win,b,he,hb,hblk',H,hg⟩;refine⟨win,b,he,hb,by rw[Pf,Pf];exact hblk',Qd ⟨by rw[H.out.1,hla],H.out.2.1,H.out.2.2⟩,hg⟩
theorem Oba (G c c' j n:Nat)(A':Option Addr)(P a Q d:List Nat)(w:World)(hblk:Blk w G 90 (U (P++(a++Q))))(hP:P.length=j)(hy:Lies w G A' (U d))(ha:Nt.Ok a)(hd:Nt.Ok d)(hla:a.length=n+1)(hld:d.length=n)(hc:n+1<=c)(hc':n<=c')(hm:c<=9223372036854775807)(hm':c'<=9223372036854775807)(hs:n<=1000000):
 Calls Tryz.prog 218 #[.slice (some ⟨G,j,none⟩) (n+1) c,.slice A' n c'] w λe w'=>∃(win:List Nat) (b:Nat),e= .returned (.tuple #[])/\Blk w' G 90 (U (P++(win++Q)))/\Hid (win.length=n+1/\Nt.Ok win/\Nt.val win+b*4294967296^(n+1)=Nt.val a+Nt.val d)/\w.grownBy w' (some G):=by
 subst hld;subst hP;rw[Pf,Pf] at hblk;have h:=E6 G c c' A' (U P) (U Q) a d w hblk hy ha hd hla hc hc' hm hm' hs;rw[Ig] at h;refine h.mono ?_;rintro e w' ⟨win,b,he,hblk',H,hg⟩;refine⟨win,b,he,by rw[Pf,Pf];exact hblk',Qd ⟨by rw[H.out.1,hla],H.out.2.1,H.out.2.2⟩,hg⟩
theorem Q6 (G c c' j n:Nat)(A':Option Addr)(P a Q d:List Nat)(w:World)(hblk:Blk w G 90 (U (P++(a++Q))))(hP:P.length=j)(hy:Lies w G A' (U d))(ha:Nt.Ok a)(hd:Nt.Ok d)(hla:a.length=n+1)(hld:d.length=n)(hn:2<=n)(hs:n<=1000000)
 (h31:∀h:n-1<d.length,2147483648<=d[n-1]) (hlt:Nt.val a<4294967296*Nt.val d) (hc:n+1<=c) (hc':n<=c'):
 Calls Tryz.prog 216 #[.slice (some ⟨G,j,none⟩) (n+1) c,.slice A' n c'] w λe w'=>∃g:Nat,e= .returned (.int .u64 (g:Int))/\Hid (Nt.val a/Nt.val d<=g/\g<=Nt.val a/Nt.val d+1)/\g<4294967296/\∃k,w'=w.drewN k:=by
 have hg:=hblk.lt;refine Oz (some ⟨G,j,none⟩) A' c c' w.heap.size n a d w ?_ (hy.more (by omega)) ha hd hla hld hn hs h31 hlt hc hc';refine .inr ⟨G,j,rfl,hg,λi v hv=>?_⟩;rw[Pf,Pf] at hblk;refine hblk.cell ?_;rw[List.getElem?_append_right (by rw[Ig];omega),Ig,hP,Nat.add_sub_cancel_left,List.getElem?_append_left]
 ·exact hv
 rcases Nat.lt_or_ge i (U a).length with h |h
 ·exact h
 rw[List.getElem?_eq_none h] at hv;cases hv
end Go.Proofs.YtceplkpjnebnfaaGreatDoor
