/-
  Texts of this proof, joined (by wip/bin/bundle.py): Shelf, Long4, Long5, NatRes, Gcd1.
-/
import Derived.Test.YtfiefglagknclaaGreatDoorM6
import Derived.Shelf.Strings.Builder1
import Derived.Shelf.Strings.Builder2
import Derived.Shelf.Strings.Trim
import Derived.Shelf.Small.Utf8
import Derived.Shelf.Small.Bits
import Derived.Shelf.Small.Strs
import Derived.Shelf.Small.Wraps
import Derived.Shelf.Strings.BuilderF
import Derived.Shelf.Strings.BuilderK
import Derived.Shelf.Utf8.AppendRune
import Derived.Shelf.Utf8.AppendRunePlain
import Derived.Shelf.Strconv.Itoa0
import Derived.Shelf.Strconv.Itoa1
import Derived.Shelf.LaysM
import Derived.Shelf.Strconv.Itoa2
import Derived.Shelf.Strings.Search1
import Derived.Shelf.Strings.Prefix
import Derived.Shelf.Strings.Runes
import Derived.Shelf.Strings.AsciiSet
import Derived.Shelf.Bits.Mul64
import Derived.Shelf.Strings.Repeat
import Derived.Shelf.Unicode.DecodeSlow
import Derived.Test.YtfiefglagknclaaGreatDoorProg
import Derived.Deep.RegionWith
import Derived.Deep.LoopGhost
/-
  DERIVED: THE SHELF's CONTRACTS AT THIS DUMP, IN PLAIN WORDS (tools/lay-plain.mjs out of 'YtfiefglagknclaaGreatDoorShelf.lean', which tools/lay-shelf.mjs wrote): THE SAME DECLARATIONS UNDER THE SAME NAMES: 'import', 'namespace', 'open', 'def', 'theorem' AND NOTHING ELSE: no command of the shelf's: FOR A HAND-IN. Each laying: the table of numbers ('.._ren') and one theorem, a field a fact of the dump's own or the kernel's comparison; each contract: ONE APPLICATION.
-/
namespace Go.Proofs
open Go.Shelf
def Tryz.lays170_ren : Go.Shelf.Ren := ⟨fun | 170 => 46 | n => n, fun | 70 => 81 | 3 => 3 | 0 => 0 | 72 => 84 | 37 => 82 | 5 => 5 | n => n, fun | n => n⟩
theorem Tryz.lays170 : Go.Proofs.Lays.n170 Tryz.prog Tryz.lays170_ren := {
  mixed := by kernel_rfl
  f170 := Tryz.func46.trans (congrArg some (by kernel_rfl))
  t0 := Tryz.underlying0
  a0 := Tryz.isAgg0
  z0 := Tryz.sizeOf0
  v0 := Tryz.zeroValue0
  t3 := Tryz.underlying3
  a3 := Tryz.isAgg3
  z3 := Tryz.sizeOf3
  v3 := Tryz.zeroValue3
  t37 := Tryz.underlying82
  a37 := Tryz.isAgg82
  z37 := Tryz.sizeOf82
  v37 := Tryz.zeroValue82
  t70 := Tryz.underlying81
  a70 := Tryz.isAgg81
  z70 := Tryz.sizeOf81
  v70 := Tryz.zeroValue81
  t72 := Tryz.underlying84
  a72 := Tryz.isAgg84
  z72 := Tryz.sizeOf84
  v72 := Tryz.zeroValue84 }
open Go.RowKit in
/-- (*strings.Builder).Len: "Len returns the number of accumulated bytes; b.Len() == len(b.String()).": the world is as it was. (LAID: no walk: one application.) -/
theorem Tryz.Builder_Len (B b : Nat) (bs : List Value) (w : World) (h : Lib.IsBuilder 84 5 B b bs w) :
    Calls Tryz.prog 46 #[.pointer (some ⟨b, 0, none⟩)] w fun e w' => e = .returned (.int .i64 bs.length) ∧ w' = w := Any.Builder_Len Tryz.lays170 B b bs w h
def Tryz.lays169_ren : Go.Shelf.Ren := ⟨fun | 169 => 47 | n => n, fun | 70 => 81 | 9 => 9 | 0 => 0 | 72 => 84 | 37 => 82 | 127 => 114 | 3 => 3 | 5 => 5 | n => n, fun | n => n⟩
theorem Tryz.lays169 : Go.Proofs.Lays.n169 Tryz.prog Tryz.lays169_ren := {
  mixed := by kernel_rfl
  f169 := Tryz.func47.trans (congrArg some (by kernel_rfl))
  t0 := Tryz.underlying0
  a0 := Tryz.isAgg0
  z0 := Tryz.sizeOf0
  v0 := Tryz.zeroValue0
  t3 := Tryz.underlying3
  a3 := Tryz.isAgg3
  z3 := Tryz.sizeOf3
  v3 := Tryz.zeroValue3
  t9 := Tryz.underlying9
  a9 := Tryz.isAgg9
  z9 := Tryz.sizeOf9
  v9 := Tryz.zeroValue9
  t37 := Tryz.underlying82
  a37 := Tryz.isAgg82
  z37 := Tryz.sizeOf82
  v37 := Tryz.zeroValue82
  t70 := Tryz.underlying81
  a70 := Tryz.isAgg81
  z70 := Tryz.sizeOf81
  v70 := Tryz.zeroValue81
  t72 := Tryz.underlying84
  a72 := Tryz.isAgg84
  z72 := Tryz.sizeOf84
  v72 := Tryz.zeroValue84
  t127 := Tryz.underlying114
  a127 := Tryz.isAgg114
  z127 := Tryz.sizeOf114
  v127 := Tryz.zeroValue114 }
theorem Tryz.Builder_Extra_169 : Builder.Extra Tryz.prog Tryz.lays169_ren := {
  sizeBuilder := by kernel_rfl
  liesBuilder := by kernel_rfl
  t5 := Tryz.underlying5
  a5 := Tryz.isAgg5
  z5 := Tryz.sizeOf5
  v5 := Tryz.zeroValue5
  infoByte := by kernel_rfl
  cellsByte := by kernel_rfl
  sizeByte := by kernel_rfl
  neB5 := by decide }
open Go.RowKit in
/-- (*strings.Builder).String: "String returns the accumulated string.": OF A BUILDER THAT HOLDS AT LEAST ONE BYTE. ✋ THE MODEL FREEZES THOSE BYTES IN THE BUFFER (unsafe.String): a later write INTO them ends the model's run without an answer; a later append BEHIND them goes on. The statement's order of evaluation is drawn: one draw. (LAID: no walk: one application.) -/
theorem Tryz.Builder_String (B b : Nat) (l : List UInt8) (w : World) (h : Lib.IsBuilder 84 5 B b (Lib.byteCells l) w) (h0 : l ≠ []) :
    Calls Tryz.prog 47 #[.pointer (some ⟨b, 0, none⟩)] w fun e w' => e = .returned (.string ⟨l.toArray⟩) ∧ Below B w w' := Any.Builder_String Tryz.lays169 Tryz.Builder_Extra_169 B b l w h h0
open Go.RowKit in
/-- (*strings.Builder).String OF A BUILDER THAT HOLDS NO BYTE: the empty string. (Its buffer is nil, or a row of which it has taken nothing yet; where that row has NO capacity the model lays one new block for unsafe.SliceData's 'some address'.) One draw. (LAID: no walk: one application.) -/
theorem Tryz.Builder_String_empty (B b : Nat) (w : World) (h : Lib.IsBuilder 84 5 B b [] w) (hBw : B ≤ w.heap.size) :
    Calls Tryz.prog 47 #[.pointer (some ⟨b, 0, none⟩)] w fun e w' => e = .returned (.string ⟨#[]⟩) ∧ Below B w w' := Any.Builder_String_empty Tryz.lays169 Tryz.Builder_Extra_169 B b w h hBw
open Go.RowKit in
/-- (*strings.Builder).String: "String returns the accumulated string.": WHATEVER THE BUILDER HOLDS. (LAID: no walk: one application.) -/
theorem Tryz.Builder_String_any (B b : Nat) (l : List UInt8) (w : World) (h : Lib.IsBuilder 84 5 B b (Lib.byteCells l) w) (hBw : B ≤ w.heap.size) :
    Calls Tryz.prog 47 #[.pointer (some ⟨b, 0, none⟩)] w fun e w' => e = .returned (.string ⟨l.toArray⟩) ∧ Below B w w' := Any.Builder_String_any Tryz.lays169 Tryz.Builder_Extra_169 B b l w h hBw
def Tryz.lays241_ren : Go.Shelf.Ren := ⟨fun | 241 => 82 | 277 => 108 | n => n, fun | 70 => 81 | 3 => 3 | 0 => 0 | 72 => 84 | 37 => 82 | 5 => 5 | n => n, fun | n => n⟩
theorem Tryz.lays241 : Go.Proofs.Lays.n241 Tryz.prog Tryz.lays241_ren := {
  mixed := by kernel_rfl
  f241 := Tryz.func82.trans (congrArg some (by kernel_rfl))
  f277 := Tryz.func108.trans (congrArg some (by kernel_rfl))
  t0 := Tryz.underlying0
  a0 := Tryz.isAgg0
  z0 := Tryz.sizeOf0
  v0 := Tryz.zeroValue0
  t3 := Tryz.underlying3
  a3 := Tryz.isAgg3
  z3 := Tryz.sizeOf3
  v3 := Tryz.zeroValue3
  t37 := Tryz.underlying82
  a37 := Tryz.isAgg82
  z37 := Tryz.sizeOf82
  v37 := Tryz.zeroValue82
  t70 := Tryz.underlying81
  a70 := Tryz.isAgg81
  z70 := Tryz.sizeOf81
  v70 := Tryz.zeroValue81
  t72 := Tryz.underlying84
  a72 := Tryz.isAgg84
  z72 := Tryz.sizeOf84
  v72 := Tryz.zeroValue84 }
theorem Tryz.Builder_Extra_241 : Builder.Extra Tryz.prog Tryz.lays241_ren := {
  sizeBuilder := by kernel_rfl
  liesBuilder := by kernel_rfl
  t5 := Tryz.underlying5
  a5 := Tryz.isAgg5
  z5 := Tryz.sizeOf5
  v5 := Tryz.zeroValue5
  infoByte := by kernel_rfl
  cellsByte := by kernel_rfl
  sizeByte := by kernel_rfl
  neB5 := by decide }
open Go.RowKit in
/-- (*strings.Builder).grow (no doc but "grow copies the buffer to a new, larger buffer so that there are at least n bytes of capacity beyond len(b.buf)."): AT A BUILDER WITHOUT A BUFFER: a new row of whatever bytes for its buffer, none of them its own yet. Three draws. (LAID: no walk: one application.) -/
theorem Tryz.Builder_grow_fresh (B b n : Nat) (w : World) (hB : B ≤ b) (hbk : w.heap[b]? = some (.cells #[.pointer (some ⟨b, 0, none⟩), .slice none 0 0] 84 (0, 0))) (hBw : B ≤ w.heap.size) (hn : n ≤ 281474976710656) :
    Calls Tryz.prog 82 #[.pointer (some ⟨b, 0, none⟩), .int .i64 n] w fun e w' => e = .returned (.tuple #[]) ∧ (Lib.BuilderAt 84 5 B b (.pointer (some ⟨b, 0, none⟩)) [] w' ∧ Below B w w') := Any.Builder_grow_fresh Tryz.lays241 Tryz.Builder_Extra_241 B b n w hB hbk hBw hn
def Tryz.lays165_ren : Go.Shelf.Ren := ⟨fun | 165 => 44 | 240 => 81 | 241 => 82 | 276 => 107 | 277 => 108 | n => n, fun | 70 => 81 | 3 => 3 | 0 => 0 | 4 => 4 | 9 => 9 | 20 => 20 | 72 => 84 | 37 => 82 | 164 => 136 | 5 => 5 | n => n, fun | n => n⟩
theorem Tryz.lays165 : Go.Proofs.Lays.n165 Tryz.prog Tryz.lays165_ren := {
  mixed := by kernel_rfl
  f165 := Tryz.func44.trans (congrArg some (by kernel_rfl))
  f240 := Tryz.func81.trans (congrArg some (by kernel_rfl))
  f241 := Tryz.func82.trans (congrArg some (by kernel_rfl))
  f276 := Tryz.func107.trans (congrArg some (by kernel_rfl))
  f277 := Tryz.func108.trans (congrArg some (by kernel_rfl))
  t0 := Tryz.underlying0
  a0 := Tryz.isAgg0
  z0 := Tryz.sizeOf0
  v0 := Tryz.zeroValue0
  t3 := Tryz.underlying3
  a3 := Tryz.isAgg3
  z3 := Tryz.sizeOf3
  v3 := Tryz.zeroValue3
  t4 := Tryz.underlying4
  a4 := Tryz.isAgg4
  z4 := Tryz.sizeOf4
  v4 := Tryz.zeroValue4
  t9 := Tryz.underlying9
  a9 := Tryz.isAgg9
  z9 := Tryz.sizeOf9
  v9 := Tryz.zeroValue9
  t20 := Tryz.underlying20
  a20 := Tryz.isAgg20
  z20 := Tryz.sizeOf20
  v20 := Tryz.zeroValue20
  t37 := Tryz.underlying82
  a37 := Tryz.isAgg82
  z37 := Tryz.sizeOf82
  v37 := Tryz.zeroValue82
  t70 := Tryz.underlying81
  a70 := Tryz.isAgg81
  z70 := Tryz.sizeOf81
  v70 := Tryz.zeroValue81
  t72 := Tryz.underlying84
  a72 := Tryz.isAgg84
  z72 := Tryz.sizeOf84
  v72 := Tryz.zeroValue84
  t164 := Tryz.underlying136
  a164 := Tryz.isAgg136
  z164 := Tryz.sizeOf136
  v164 := Tryz.zeroValue136 }
theorem Tryz.Builder_Extra_165 : Builder.Extra Tryz.prog Tryz.lays165_ren := {
  sizeBuilder := by kernel_rfl
  liesBuilder := by kernel_rfl
  t5 := Tryz.underlying5
  a5 := Tryz.isAgg5
  z5 := Tryz.sizeOf5
  v5 := Tryz.zeroValue5
  infoByte := by kernel_rfl
  cellsByte := by kernel_rfl
  sizeByte := by kernel_rfl
  neB5 := by decide }
open Go.RowKit in
/-- (*strings.Builder).Grow AT A BUILDER THAT HAS NOT BEEN WRITTEN ('var b strings.Builder; b.Grow(n)'): "Grow grows b's capacity, if necessary, to guarantee space for another n bytes.": it holds no byte behind it as before it. (LAID: no walk: one application.) -/
theorem Tryz.Builder_Grow_fresh (B b n : Nat) (w : World) (hB : B ≤ b) (hbk : w.heap[b]? = some (.cells #[.pointer none, .slice none 0 0] 84 (0, 0))) (hBw : B ≤ w.heap.size) (hn : n ≤ 281474976710656) :
    Calls Tryz.prog 44 #[.pointer (some ⟨b, 0, none⟩), .int .i64 n] w fun e w' => e = .returned (.tuple #[]) ∧ (Lib.BuilderAt 84 5 B b (.pointer (some ⟨b, 0, none⟩)) [] w' ∧ Below B w w') := Any.Builder_Grow_fresh Tryz.lays165 Tryz.Builder_Extra_165 B b n w hB hbk hBw hn
def Tryz.lays231_ren : Go.Shelf.Ren := ⟨fun | 231 => 89 | n => n, fun | 9 => 9 | 5 => 5 | 3 => 3 | 4 => 4 | n => n, fun | n => n⟩
theorem Tryz.lays231 : Go.Proofs.Lays.n231 Tryz.prog Tryz.lays231_ren := {
  mixed := by kernel_rfl
  f231 := Tryz.func89.trans (congrArg some (by kernel_rfl))
  t3 := Tryz.underlying3
  a3 := Tryz.isAgg3
  z3 := Tryz.sizeOf3
  v3 := Tryz.zeroValue3
  t4 := Tryz.underlying4
  a4 := Tryz.isAgg4
  z4 := Tryz.sizeOf4
  v4 := Tryz.zeroValue4
  t5 := Tryz.underlying5
  a5 := Tryz.isAgg5
  z5 := Tryz.sizeOf5
  v5 := Tryz.zeroValue5
  t9 := Tryz.underlying9
  a9 := Tryz.isAgg9
  z9 := Tryz.sizeOf9
  v9 := Tryz.zeroValue9 }
open Go.RowKit in
/-- strings.trimLeftByte (no doc; what TrimLeft and Trim call at a cutset of one ASCII byte): the leading bytes that are c are cut off. The world is as it was. (LAID: no walk: one application.) -/
theorem Tryz.strings_trimLeftByte (s : ByteArray) (c : UInt8) (w : World) :
    Calls Tryz.prog 89 #[.string s, .int .u8 c.toNat] w fun e w' => e = .returned (.string ⟨(Lib.trimLeftB s.data.toList c).toArray⟩) ∧ w' = w := Any.strings_trimLeftByte Tryz.lays231 s c w
def Tryz.lays161_ren : Go.Shelf.Ren := ⟨fun | 161 => 52 | 231 => 89 | 227 => 90 | 233 => 91 | 235 => 92 | 228 => 115 | 197 => 116 | 151 => 117 | 260 => 129 | 152 => 130 | 137 => 137 | 119 => 138 | 224 => 139 | 225 => 140 | 217 => 146 | 266 => 149 | n => n, fun | 9 => 9 | 4 => 4 | 3 => 3 | 5 => 5 | 117 => 123 | 116 => 122 | 0 => 0 | 124 => 126 | 105 => 144 | 21 => 21 | 119 => 158 | 46 => 77 | 139 => 161 | 138 => 160 | n => n, fun | 3 => 1 | 4 => 2 | n => n⟩
theorem Tryz.lays161 : Go.Proofs.Lays.n161 Tryz.prog Tryz.lays161_ren := {
  mixed := by kernel_rfl
  f119 := Tryz.func138.trans (congrArg some (by kernel_rfl))
  f137 := Tryz.func137.trans (congrArg some (by kernel_rfl))
  f151 := Tryz.func117.trans (congrArg some (by kernel_rfl))
  f152 := Tryz.func130.trans (congrArg some (by kernel_rfl))
  f161 := Tryz.func52.trans (congrArg some (by kernel_rfl))
  f197 := Tryz.func116.trans (congrArg some (by kernel_rfl))
  f217 := Tryz.func146.trans (congrArg some (by kernel_rfl))
  f224 := Tryz.func139.trans (congrArg some (by kernel_rfl))
  f225 := Tryz.func140.trans (congrArg some (by kernel_rfl))
  f227 := Tryz.func90.trans (congrArg some (by kernel_rfl))
  f228 := Tryz.func115.trans (congrArg some (by kernel_rfl))
  f231 := Tryz.func89.trans (congrArg some (by kernel_rfl))
  f233 := Tryz.func91.trans (congrArg some (by kernel_rfl))
  f235 := Tryz.func92.trans (congrArg some (by kernel_rfl))
  f260 := Tryz.func129.trans (congrArg some (by kernel_rfl))
  f266 := Tryz.func149.trans (congrArg some (by kernel_rfl))
  t0 := Tryz.underlying0
  a0 := Tryz.isAgg0
  z0 := Tryz.sizeOf0
  v0 := Tryz.zeroValue0
  t3 := Tryz.underlying3
  a3 := Tryz.isAgg3
  z3 := Tryz.sizeOf3
  v3 := Tryz.zeroValue3
  t4 := Tryz.underlying4
  a4 := Tryz.isAgg4
  z4 := Tryz.sizeOf4
  v4 := Tryz.zeroValue4
  t5 := Tryz.underlying5
  a5 := Tryz.isAgg5
  z5 := Tryz.sizeOf5
  v5 := Tryz.zeroValue5
  t9 := Tryz.underlying9
  a9 := Tryz.isAgg9
  z9 := Tryz.sizeOf9
  v9 := Tryz.zeroValue9
  t21 := Tryz.underlying21
  a21 := Tryz.isAgg21
  z21 := Tryz.sizeOf21
  v21 := Tryz.zeroValue21
  t46 := Tryz.underlying77
  a46 := Tryz.isAgg77
  z46 := Tryz.sizeOf77
  v46 := Tryz.zeroValue77
  t105 := Tryz.underlying144
  a105 := Tryz.isAgg144
  z105 := Tryz.sizeOf144
  v105 := Tryz.zeroValue144
  t116 := Tryz.underlying122
  a116 := Tryz.isAgg122
  z116 := Tryz.sizeOf122
  t117 := Tryz.underlying123
  a117 := Tryz.isAgg123
  z117 := Tryz.sizeOf123
  v117 := Tryz.zeroValue123
  t119 := Tryz.underlying158
  a119 := Tryz.isAgg158
  z119 := Tryz.sizeOf158
  t124 := Tryz.underlying126
  a124 := Tryz.isAgg126
  z124 := Tryz.sizeOf126
  v124 := Tryz.zeroValue126
  t138 := Tryz.underlying160
  a138 := Tryz.isAgg160
  z138 := Tryz.sizeOf160
  v138 := Tryz.zeroValue160
  t139 := Tryz.underlying161
  a139 := Tryz.isAgg161
  z139 := Tryz.sizeOf161
  v139 := Tryz.zeroValue161
  g3 := by kernel_rfl
  g4 := by kernel_rfl }
open Go.RowKit in
/-- strings.TrimLeft: "TrimLeft returns a slice of the string s with all leading Unicode code points contained in cutset removed.": AT A cutset OF ONE ASCII BYTE. The world is as it was. (LAID: no walk: one application.) -/
theorem Tryz.strings_TrimLeft_one (s : ByteArray) (c : UInt8) (hc : c.toNat < 128) (w : World) :
    Calls Tryz.prog 52 #[.string s, .string ⟨#[c]⟩] w fun e w' => e = .returned (.string ⟨(Lib.trimLeftB s.data.toList c).toArray⟩) ∧ w' = w := Any.strings_TrimLeft_one Tryz.lays161 s c hc w
def Tryz.lays119_ren : Go.Shelf.Ren := ⟨fun | 119 => 138 | n => n, fun | 21 => 21 | 4 => 4 | n => n, fun | n => n⟩
theorem Tryz.lays119 : Go.Proofs.Lays.n119 Tryz.prog Tryz.lays119_ren := {
  mixed := by kernel_rfl
  f119 := Tryz.func138.trans (congrArg some (by kernel_rfl))
  t4 := Tryz.underlying4
  a4 := Tryz.isAgg4
  z4 := Tryz.sizeOf4
  v4 := Tryz.zeroValue4
  t21 := Tryz.underlying21
  a21 := Tryz.isAgg21
  z21 := Tryz.sizeOf21
  v21 := Tryz.zeroValue21 }
/-- utf8.ValidRune: "ValidRune reports whether r can be legally encoded as UTF-8. Code points that are out of range or a surrogate half are illegal.": IT RETURNS 'Lib.validRune r'; the world is as it was. (LAID: no walk: one application.) -/
theorem Tryz.utf8_ValidRune (r : Int) (w : World) :
    Calls Tryz.prog 138 #[.int .i32 r] w fun e w' => e = .returned (.bool (Lib.validRune r)) ∧ w' = w := Any.utf8_ValidRune Tryz.lays119 r w
def Tryz.lays128_ren : Go.Shelf.Ren := ⟨fun | 128 => 126 | n => n, fun | 51 => 22 | 3 => 3 | 4 => 4 | 46 => 77 | 5 => 5 | 9 => 9 | n => n, fun | n => n⟩
theorem Tryz.lays128 : Go.Proofs.Lays.n128 Tryz.prog Tryz.lays128_ren := {
  mixed := by kernel_rfl
  f128 := Tryz.func126.trans (congrArg some (by kernel_rfl))
  t3 := Tryz.underlying3
  a3 := Tryz.isAgg3
  z3 := Tryz.sizeOf3
  v3 := Tryz.zeroValue3
  t4 := Tryz.underlying4
  a4 := Tryz.isAgg4
  z4 := Tryz.sizeOf4
  v4 := Tryz.zeroValue4
  t5 := Tryz.underlying5
  a5 := Tryz.isAgg5
  z5 := Tryz.sizeOf5
  v5 := Tryz.zeroValue5
  t9 := Tryz.underlying9
  a9 := Tryz.isAgg9
  z9 := Tryz.sizeOf9
  v9 := Tryz.zeroValue9
  t46 := Tryz.underlying77
  a46 := Tryz.isAgg77
  z46 := Tryz.sizeOf77
  v46 := Tryz.zeroValue77
  t51 := Tryz.underlying22
  a51 := Tryz.isAgg22
  z51 := Tryz.sizeOf22
  v51 := Tryz.zeroValue22 }
/-- bits.Len32: "Len32 returns the minimum number of bits required to represent x; the result is 0 for x == 0.": IT RETURNS 'Lib.bitLen x'; the world is as it was. ('h0', 'h1': x is a uint32.) (LAID: no walk: one application.) -/
theorem Tryz.bits_Len32 (x : Int) (w : World) (h0 : 0 ≤ x) (h1 : x ≤ 4294967295) :
    Calls Tryz.prog 126 #[.int .u32 x] w fun e w' => e = .returned (.int .i64 (Lib.bitLen x.toNat)) ∧ w' = w := Any.bits_Len32 Tryz.lays128 x w h0 h1
def Tryz.lays133_ren : Go.Shelf.Ren := ⟨fun | 133 => 109 | 128 => 126 | n => n, fun | 51 => 22 | 3 => 3 | 4 => 4 | 46 => 77 | 5 => 5 | 9 => 9 | n => n, fun | n => n⟩
theorem Tryz.lays133 : Go.Proofs.Lays.n133 Tryz.prog Tryz.lays133_ren := {
  mixed := by kernel_rfl
  f128 := Tryz.func126.trans (congrArg some (by kernel_rfl))
  f133 := Tryz.func109.trans (congrArg some (by kernel_rfl))
  t3 := Tryz.underlying3
  a3 := Tryz.isAgg3
  z3 := Tryz.sizeOf3
  v3 := Tryz.zeroValue3
  t4 := Tryz.underlying4
  a4 := Tryz.isAgg4
  z4 := Tryz.sizeOf4
  v4 := Tryz.zeroValue4
  t5 := Tryz.underlying5
  a5 := Tryz.isAgg5
  z5 := Tryz.sizeOf5
  v5 := Tryz.zeroValue5
  t9 := Tryz.underlying9
  a9 := Tryz.isAgg9
  z9 := Tryz.sizeOf9
  v9 := Tryz.zeroValue9
  t46 := Tryz.underlying77
  a46 := Tryz.isAgg77
  z46 := Tryz.sizeOf77
  v46 := Tryz.zeroValue77
  t51 := Tryz.underlying22
  a51 := Tryz.isAgg22
  z51 := Tryz.sizeOf22
  v51 := Tryz.zeroValue22 }
/-- bits.LeadingZeros32: "LeadingZeros32 returns the number of leading zero bits in x; the result is 32 for x == 0.": IT RETURNS '32 - Lib.bitLen x'; the world is as it was. ITS CALLEE bits.Len32 IS MET BY ITS OWN CONTRACT OFF THE SHELF (lay that first): entered in place it sends the kernel out of memory. (LAID: no walk: one application.) -/
theorem Tryz.bits_LeadingZeros32 (x : Int) (w : World) (h0 : 0 ≤ x) (h1 : x ≤ 4294967295) :
    Calls Tryz.prog 109 #[.int .u32 x] w fun e w' => e = .returned (.int .i64 (32 - (Lib.bitLen x.toNat : Int))) ∧ w' = w := Any.bits_LeadingZeros32 Tryz.lays133 x w h0 h1
def Tryz.lays137_ren : Go.Shelf.Ren := ⟨fun | 137 => 137 | 217 => 146 | 266 => 149 | n => n, fun | 9 => 9 | 5 => 5 | 3 => 3 | n => n, fun | n => n⟩
theorem Tryz.lays137 : Go.Proofs.Lays.n137 Tryz.prog Tryz.lays137_ren := {
  mixed := by kernel_rfl
  f137 := Tryz.func137.trans (congrArg some (by kernel_rfl))
  f217 := Tryz.func146.trans (congrArg some (by kernel_rfl))
  f266 := Tryz.func149.trans (congrArg some (by kernel_rfl))
  t3 := Tryz.underlying3
  a3 := Tryz.isAgg3
  z3 := Tryz.sizeOf3
  v3 := Tryz.zeroValue3
  t5 := Tryz.underlying5
  a5 := Tryz.isAgg5
  z5 := Tryz.sizeOf5
  v5 := Tryz.zeroValue5
  t9 := Tryz.underlying9
  a9 := Tryz.isAgg9
  z9 := Tryz.sizeOf9
  v9 := Tryz.zeroValue9 }
open Go.RowKit in
/-- strings.IndexByte: "IndexByte returns the index of the first instance of c in s, or -1 if c is not present in s.": IT RETURNS 'Lib.indexByte s c'; the world is as it was. (LAID: no walk: one application.) -/
theorem Tryz.strings_IndexByte (s : ByteArray) (c : Int) (w : World) :
    Calls Tryz.prog 137 #[.string s, .int .u8 c] w fun e w' => e = .returned (.int .i64 (Lib.indexByte s.data.toList c.toNat.toUInt8)) ∧ w' = w := Any.strings_IndexByte Tryz.lays137 s c w
def Tryz.lays210_ren : Go.Shelf.Ren := ⟨fun | 210 => 41 | 206 => 78 | n => n, fun | 9 => 9 | 4 => 4 | 3 => 3 | n => n, fun | n => n⟩
theorem Tryz.lays210 : Go.Proofs.Lays.n210 Tryz.prog Tryz.lays210_ren := {
  mixed := by kernel_rfl
  f206 := Tryz.func78.trans (congrArg some (by kernel_rfl))
  f210 := Tryz.func41.trans (congrArg some (by kernel_rfl))
  t3 := Tryz.underlying3
  a3 := Tryz.isAgg3
  z3 := Tryz.sizeOf3
  v3 := Tryz.zeroValue3
  t4 := Tryz.underlying4
  a4 := Tryz.isAgg4
  z4 := Tryz.sizeOf4
  v4 := Tryz.zeroValue4
  t9 := Tryz.underlying9
  a9 := Tryz.isAgg9
  z9 := Tryz.sizeOf9
  v9 := Tryz.zeroValue9 }
open Go.RowKit in
/-- internal/stringslite.CutPrefix (what strings.CutPrefix calls). (LAID: no walk: one application.) -/
theorem Tryz.stringslite_CutPrefix (s p : ByteArray) (w : World) :
    Calls Tryz.prog 41 #[.string s, .string p] w fun e w' => e = .returned (.tuple #[.string ⟨(Lib.trimPrefix s.data.toList p.data.toList).toArray⟩, .bool (Lib.hasPrefix s.data.toList p.data.toList)]) ∧ w' = w := Any.stringslite_CutPrefix Tryz.lays210 s p w
def Tryz.lays103_ren : Go.Shelf.Ren := ⟨fun | 103 => 21 | 210 => 41 | 206 => 78 | n => n, fun | 9 => 9 | 4 => 4 | 24 => 51 | 3 => 3 | n => n, fun | n => n⟩
theorem Tryz.lays103 : Go.Proofs.Lays.n103 Tryz.prog Tryz.lays103_ren := {
  mixed := by kernel_rfl
  f103 := Tryz.func21.trans (congrArg some (by kernel_rfl))
  f206 := Tryz.func78.trans (congrArg some (by kernel_rfl))
  f210 := Tryz.func41.trans (congrArg some (by kernel_rfl))
  t3 := Tryz.underlying3
  a3 := Tryz.isAgg3
  z3 := Tryz.sizeOf3
  v3 := Tryz.zeroValue3
  t4 := Tryz.underlying4
  a4 := Tryz.isAgg4
  z4 := Tryz.sizeOf4
  v4 := Tryz.zeroValue4
  t9 := Tryz.underlying9
  a9 := Tryz.isAgg9
  z9 := Tryz.sizeOf9
  v9 := Tryz.zeroValue9
  t24 := Tryz.underlying51
  a24 := Tryz.isAgg51
  z24 := Tryz.sizeOf51
  v24 := Tryz.zeroValue51 }
open Go.RowKit in
/-- strings.CutPrefix: "CutPrefix returns s without the provided leading prefix string and reports whether it found the prefix. If s doesn't start with prefix, CutPrefix returns s, false. If prefix is the empty string, CutPrefix returns s, true.": IT RETURNS '(Lib.trimPrefix s p, Lib.hasPrefix s p)'; the world is as it was. (LAID: no walk: one application.) -/
theorem Tryz.strings_CutPrefix (s p : ByteArray) (w : World) :
    Calls Tryz.prog 21 #[.string s, .string p] w fun e w' => e = .returned (.tuple #[.string ⟨(Lib.trimPrefix s.data.toList p.data.toList).toArray⟩, .bool (Lib.hasPrefix s.data.toList p.data.toList)]) ∧ w' = w := Any.strings_CutPrefix Tryz.lays103 s p w
open Go.RowKit in
/-- (*strings.Builder).Len: "Len returns the number of accumulated bytes; b.Len() == len(b.String()).": the world is as it was. (THE FORM '_f': 'Lib.IsBuilderF'.) (LAID: no walk: one application.) -/
theorem Tryz.Builder_Len_f (B b : Nat) (bs : List Value) (w : World) (h : Lib.IsBuilderF 84 5 B b bs w) :
    Calls Tryz.prog 46 #[.pointer (some ⟨b, 0, none⟩)] w fun e w' => e = .returned (.int .i64 bs.length) ∧ w' = w := Any.Builder_Len_f Tryz.lays170 B b bs w h
open Go.RowKit in
/-- (*strings.Builder).String: "String returns the accumulated string.": OF A BUILDER THAT HOLDS AT LEAST ONE BYTE. ✋ THE MODEL FREEZES THOSE BYTES IN THE BUFFER (unsafe.String): a later write INTO them ends the model's run without an answer; a later append BEHIND them goes on. The statement's order of evaluation is drawn: one draw. THE FORM '_f': IT SAYS BESIDES THAT THE BUILDER IS A BUILDER STILL ('Lib.IsBuilderF', the same bytes): SO IT CAN BE WRITTEN ON: 'b.WriteString(b.String()[:k])'. (LAID: no walk: one application.) -/
theorem Tryz.Builder_String_f (B b : Nat) (l : List UInt8) (w : World) (h : Lib.IsBuilderF 84 5 B b (Lib.byteCells l) w) (h0 : l ≠ []) :
    Calls Tryz.prog 47 #[.pointer (some ⟨b, 0, none⟩)] w fun e w' => e = .returned (.string ⟨l.toArray⟩) ∧ (Lib.IsBuilderF 84 5 B b (Lib.byteCells l) w' ∧ Below B w w') := Any.Builder_String_f Tryz.lays169 Tryz.Builder_Extra_169 B b l w h h0
open Go.RowKit in
/-- (*strings.Builder).String OF A BUILDER THAT HOLDS NO BYTE: the empty string; THE FORM '_f': a builder still. (LAID: no walk: one application.) -/
theorem Tryz.Builder_String_empty_f (B b : Nat) (w : World) (h : Lib.IsBuilderF 84 5 B b [] w) (hBw : B ≤ w.heap.size) :
    Calls Tryz.prog 47 #[.pointer (some ⟨b, 0, none⟩)] w fun e w' => e = .returned (.string ⟨#[]⟩) ∧ (Lib.IsBuilderF 84 5 B b [] w' ∧ Below B w w') := Any.Builder_String_empty_f Tryz.lays169 Tryz.Builder_Extra_169 B b w h hBw
open Go.RowKit in
/-- (*strings.Builder).String: "String returns the accumulated string.": WHATEVER THE BUILDER HOLDS; THE FORM '_f': OF A BUILDER THAT MAY HAVE BEEN READ BEFORE; AND IT IS A BUILDER STILL, holding the same bytes: it can be written on. (LAID: no walk: one application.) -/
theorem Tryz.Builder_String_any_f (B b : Nat) (l : List UInt8) (w : World) (h : Lib.IsBuilderF 84 5 B b (Lib.byteCells l) w) (hBw : B ≤ w.heap.size) :
    Calls Tryz.prog 47 #[.pointer (some ⟨b, 0, none⟩)] w fun e w' => e = .returned (.string ⟨l.toArray⟩) ∧ (Lib.IsBuilderF 84 5 B b (Lib.byteCells l) w' ∧ Below B w w') := Any.Builder_String_any_f Tryz.lays169 Tryz.Builder_Extra_169 B b l w h hBw
open Go.RowKit in
/-- (*strings.Builder).String: "String returns the accumulated string.": OF A BUILDER THAT HOLDS AT LEAST ONE BYTE. ✋ THE MODEL FREEZES THOSE BYTES IN THE BUFFER (unsafe.String): a later write INTO them ends the model's run without an answer; a later append BEHIND them goes on. The statement's order of evaluation is drawn: one draw. THE FORM '_k': OVER 'Lib.IsBuilderF' (a builder that 'String()' may have read), AND WITH THE FRAME THAT REACHES ABOVE THE BUILDER: 'Lib.OthersKept': every block that is not b and is no row of uint8's stands as it stood: the iterator of a range among them. (LAID: no walk: one application.) -/
theorem Tryz.Builder_String_k (B b : Nat) (l : List UInt8) (w : World) (h : Lib.IsBuilderF 84 5 B b (Lib.byteCells l) w) (h0 : l ≠ []) :
    Calls Tryz.prog 47 #[.pointer (some ⟨b, 0, none⟩)] w fun e w' => e = .returned (.string ⟨l.toArray⟩) ∧ (Lib.IsBuilderF 84 5 B b (Lib.byteCells l) w' ∧ Below B w w' ∧ Lib.OthersKept 5 (some b) w w') := Any.Builder_String_k Tryz.lays169 Tryz.Builder_Extra_169 B b l w h h0
open Go.RowKit in
/-- (*strings.Builder).String OF A BUILDER THAT HOLDS NO BYTE: the empty string; THE FORM '_k': OVER 'Lib.IsBuilderF' (a builder that 'String()' may have read), AND WITH THE FRAME THAT REACHES ABOVE THE BUILDER: 'Lib.OthersKept': every block that is not b and is no row of uint8's stands as it stood: the iterator of a range among them. (LAID: no walk: one application.) -/
theorem Tryz.Builder_String_empty_k (B b : Nat) (w : World) (h : Lib.IsBuilderF 84 5 B b [] w) (hBw : B ≤ w.heap.size) :
    Calls Tryz.prog 47 #[.pointer (some ⟨b, 0, none⟩)] w fun e w' => e = .returned (.string ⟨#[]⟩) ∧ (Lib.IsBuilderF 84 5 B b [] w' ∧ Below B w w' ∧ Lib.OthersKept 5 (some b) w w') := Any.Builder_String_empty_k Tryz.lays169 Tryz.Builder_Extra_169 B b w h hBw
open Go.RowKit in
/-- (*strings.Builder).String: "String returns the accumulated string.": WHATEVER THE BUILDER HOLDS; THE FORM '_k': OVER 'Lib.IsBuilderF' (a builder that 'String()' may have read), AND WITH THE FRAME THAT REACHES ABOVE THE BUILDER: 'Lib.OthersKept': every block that is not b and is no row of uint8's stands as it stood: the iterator of a range among them. (LAID: no walk: one application.) -/
theorem Tryz.Builder_String_any_k (B b : Nat) (l : List UInt8) (w : World) (h : Lib.IsBuilderF 84 5 B b (Lib.byteCells l) w) (hBw : B ≤ w.heap.size) :
    Calls Tryz.prog 47 #[.pointer (some ⟨b, 0, none⟩)] w fun e w' => e = .returned (.string ⟨l.toArray⟩) ∧ (Lib.IsBuilderF 84 5 B b (Lib.byteCells l) w' ∧ Below B w w' ∧ Lib.OthersKept 5 (some b) w w') := Any.Builder_String_any_k Tryz.lays169 Tryz.Builder_Extra_169 B b l w h hBw
def Tryz.lays278_ren : Go.Shelf.Ren := ⟨fun | 278 => 135 | n => n, fun | 37 => 82 | 21 => 21 | 51 => 22 | 4 => 4 | 46 => 77 | 5 => 5 | n => n, fun | n => n⟩
theorem Tryz.lays278 : Go.Proofs.Lays.n278 Tryz.prog Tryz.lays278_ren := {
  mixed := by kernel_rfl
  f278 := Tryz.func135.trans (congrArg some (by kernel_rfl))
  t4 := Tryz.underlying4
  a4 := Tryz.isAgg4
  z4 := Tryz.sizeOf4
  v4 := Tryz.zeroValue4
  t5 := Tryz.underlying5
  a5 := Tryz.isAgg5
  z5 := Tryz.sizeOf5
  v5 := Tryz.zeroValue5
  t21 := Tryz.underlying21
  a21 := Tryz.isAgg21
  z21 := Tryz.sizeOf21
  v21 := Tryz.zeroValue21
  t37 := Tryz.underlying82
  a37 := Tryz.isAgg82
  z37 := Tryz.sizeOf82
  v37 := Tryz.zeroValue82
  t46 := Tryz.underlying77
  a46 := Tryz.isAgg77
  z46 := Tryz.sizeOf77
  v46 := Tryz.zeroValue77
  t51 := Tryz.underlying22
  a51 := Tryz.isAgg22
  z51 := Tryz.sizeOf22
  v51 := Tryz.zeroValue22 }
open Go.RowKit in
/-- unicode/utf8.appendRuneNonASCII (what AppendRune calls for all but ASCII), ONTO A ROW OF BYTES THAT THE CALL OWNS: every int32 that is no ASCII rune: 'Lib.runeCells r' goes in behind what the row holds. (LAID: no walk: one application.) -/
theorem Tryz.utf8_appendRuneNonASCII_row (B : Nat) (v : Value) (n : Nat) (xs : List Value) (r : Int) (hr0 : -2147483648 ≤ r) (hr1 : r ≤ 2147483647) (hna : r < 0 ∨ 128 ≤ r) (w : World) (hown : w.ownsRowF B 5 1 v n xs) (hlen : n + 4 ≤ 140737488355328) (hBw : B ≤ w.heap.size) :
    Calls Tryz.prog 135 #[v, .int .i32 r] w fun e w' => ∃ v', e = .returned v' ∧ w'.ownsRowF B 5 1 v' (n + (Lib.runeCells r).length) (xs ++ Lib.runeCells r) ∧ ∃ o, (w.alloc o).grownBy w' v.ownBlock := Any.utf8_appendRuneNonASCII_row Tryz.lays278 (by kernel_rfl) B v n xs r hr0 hr1 hna w hown hlen hBw
def Tryz.lays242_ren : Go.Shelf.Ren := ⟨fun | 242 => 122 | 278 => 135 | n => n, fun | 37 => 82 | 21 => 21 | 51 => 22 | 4 => 4 | 5 => 5 | 46 => 77 | n => n, fun | n => n⟩
theorem Tryz.lays242 : Go.Proofs.Lays.n242 Tryz.prog Tryz.lays242_ren := {
  mixed := by kernel_rfl
  f242 := Tryz.func122.trans (congrArg some (by kernel_rfl))
  f278 := Tryz.func135.trans (congrArg some (by kernel_rfl))
  t4 := Tryz.underlying4
  a4 := Tryz.isAgg4
  z4 := Tryz.sizeOf4
  v4 := Tryz.zeroValue4
  t5 := Tryz.underlying5
  a5 := Tryz.isAgg5
  z5 := Tryz.sizeOf5
  v5 := Tryz.zeroValue5
  t21 := Tryz.underlying21
  a21 := Tryz.isAgg21
  z21 := Tryz.sizeOf21
  v21 := Tryz.zeroValue21
  t37 := Tryz.underlying82
  a37 := Tryz.isAgg82
  z37 := Tryz.sizeOf82
  v37 := Tryz.zeroValue82
  t46 := Tryz.underlying77
  a46 := Tryz.isAgg77
  z46 := Tryz.sizeOf77
  v46 := Tryz.zeroValue77
  t51 := Tryz.underlying22
  a51 := Tryz.isAgg22
  z51 := Tryz.sizeOf22
  v51 := Tryz.zeroValue22 }
open Go.RowKit in
/-- unicode/utf8.AppendRune: "AppendRune appends the UTF-8 encoding of r to the end of p and returns the extended buffer. If the rune is out of range, it appends the encoding of RuneError.": ONTO A ROW OF BYTES THAT THE CALL OWNS (its head frozen or not): EVERY int32: 'Lib.runeCells r' goes in behind what the row holds; the world: one new block (the bytes as the call's variadic argument), then what 'append' does to the row. (LAID: no walk: one application.) -/
theorem Tryz.utf8_AppendRune_row (B : Nat) (v : Value) (n : Nat) (xs : List Value) (r : Int) (hr0 : -2147483648 ≤ r) (hr1 : r ≤ 2147483647) (w : World) (hown : w.ownsRowF B 5 1 v n xs) (hlen : n + 4 ≤ 140737488355328) (hBw : B ≤ w.heap.size) :
    Calls Tryz.prog 122 #[v, .int .i32 r] w fun e w' => ∃ v', e = .returned v' ∧ w'.ownsRowF B 5 1 v' (n + (Lib.runeCells r).length) (xs ++ Lib.runeCells r) ∧ ∃ o, (w.alloc o).grownBy w' v.ownBlock := Any.utf8_AppendRune_row Tryz.lays242 (by kernel_rfl) B v n xs r hr0 hr1 w hown hlen hBw
open Go.RowKit in
/-- unicode/utf8.appendRuneNonASCII (what AppendRune calls for all but ASCII), ONTO A ROW OF BYTES THAT THE CALL OWNS: every int32 that is no ASCII rune: 'Lib.runeCells r' goes in behind what the row holds. (LAID: no walk: one application.) -/
theorem Tryz.utf8_appendRuneNonASCII_plain (B : Nat) (v : Value) (n : Nat) (xs : List Value) (r : Int) (hr0 : -2147483648 ≤ r) (hr1 : r ≤ 2147483647) (hna : r < 0 ∨ 128 ≤ r) (w : World) (hown : w.ownsRow B 5 1 v n xs) (hlen : n + 4 ≤ 140737488355328) (hBw : B ≤ w.heap.size) :
    Calls Tryz.prog 135 #[v, .int .i32 r] w fun e w' => ∃ v', e = .returned v' ∧ w'.ownsRow B 5 1 v' (n + (Lib.runeCells r).length) (xs ++ Lib.runeCells r) ∧ ∃ o, (w.alloc o).grownBy w' v.ownBlock := Any.utf8_appendRuneNonASCII_plain Tryz.lays278 (by kernel_rfl) B v n xs r hr0 hr1 hna w hown hlen hBw
open Go.RowKit in
/-- unicode/utf8.AppendRune: "AppendRune appends the UTF-8 encoding of r to the end of p and returns the extended buffer. If the rune is out of range, it appends the encoding of RuneError.": ONTO A ROW OF BYTES THAT THE CALL OWNS (its head frozen or not): EVERY int32: 'Lib.runeCells r' goes in behind what the row holds; the world: one new block (the bytes as the call's variadic argument), then what 'append' does to the row. (LAID: no walk: one application.) -/
theorem Tryz.utf8_AppendRune_plain (B : Nat) (v : Value) (n : Nat) (xs : List Value) (r : Int) (hr0 : -2147483648 ≤ r) (hr1 : r ≤ 2147483647) (w : World) (hown : w.ownsRow B 5 1 v n xs) (hlen : n + 4 ≤ 140737488355328) (hBw : B ≤ w.heap.size) :
    Calls Tryz.prog 122 #[v, .int .i32 r] w fun e w' => ∃ v', e = .returned v' ∧ w'.ownsRow B 5 1 v' (n + (Lib.runeCells r).length) (xs ++ Lib.runeCells r) ∧ ∃ o, (w.alloc o).grownBy w' v.ownBlock := Any.utf8_AppendRune_plain Tryz.lays242 (by kernel_rfl) B v n xs r hr0 hr1 w hown hlen hBw
def Tryz.lays129_ren : Go.Shelf.Ren := ⟨fun | 129 => 142 | n => n, fun | 53 => 74 | 3 => 3 | 4 => 4 | 46 => 77 | 5 => 5 | 9 => 9 | n => n, fun | n => n⟩
theorem Tryz.lays129 : Go.Proofs.Lays.n129 Tryz.prog Tryz.lays129_ren := {
  mixed := by kernel_rfl
  f129 := Tryz.func142.trans (congrArg some (by kernel_rfl))
  t3 := Tryz.underlying3
  a3 := Tryz.isAgg3
  z3 := Tryz.sizeOf3
  v3 := Tryz.zeroValue3
  t4 := Tryz.underlying4
  a4 := Tryz.isAgg4
  z4 := Tryz.sizeOf4
  v4 := Tryz.zeroValue4
  t5 := Tryz.underlying5
  a5 := Tryz.isAgg5
  z5 := Tryz.sizeOf5
  v5 := Tryz.zeroValue5
  t9 := Tryz.underlying9
  a9 := Tryz.isAgg9
  z9 := Tryz.sizeOf9
  v9 := Tryz.zeroValue9
  t46 := Tryz.underlying77
  a46 := Tryz.isAgg77
  z46 := Tryz.sizeOf77
  v46 := Tryz.zeroValue77
  t53 := Tryz.underlying74
  a53 := Tryz.isAgg74
  z53 := Tryz.sizeOf74
  v53 := Tryz.zeroValue74 }
/-- bits.Len64: "Len64 returns the minimum number of bits required to represent x; the result is 0 for x == 0.": IT RETURNS 'Lib.bitLen x'; the world is as it was. ('h0', 'h1': x is a uint64.) (LAID: no walk: one application.) -/
theorem Tryz.bits_Len64 (x : Int) (w : World) (h0 : 0 ≤ x) (h1 : x ≤ 18446744073709551615) :
    Calls Tryz.prog 142 #[.int .u64 x] w fun e w' => e = .returned (.int .i64 (Lib.bitLen x.toNat)) ∧ w' = w := Any.bits_Len64 Tryz.lays129 x w h0 h1
def Tryz.lays317_ren : Go.Shelf.Ren := ⟨fun | 317 => 141 | n => n, fun | 3 => 3 | 46 => 77 | n => n, fun | n => n⟩
theorem Tryz.lays317 : Go.Proofs.Lays.n317 Tryz.prog Tryz.lays317_ren := {
  mixed := by kernel_rfl
  f317 := Tryz.func141.trans (congrArg some (by kernel_rfl))
  t3 := Tryz.underlying3
  a3 := Tryz.isAgg3
  z3 := Tryz.sizeOf3
  v3 := Tryz.zeroValue3
  t46 := Tryz.underlying77
  a46 := Tryz.isAgg77
  z46 := Tryz.sizeOf77
  v46 := Tryz.zeroValue77 }
open Go.Lib in
/-- internal/strconv.log10Pow2: "log10Pow2(x) returns ⌊log₁₀ 2**x⌋ = ⌊x * log₁₀ 2⌋.": '(x * 78913) >> 18', at an x up to 64 (a length in bits). The world is as it was. (LAID: no walk: one application.) -/
theorem Tryz.internal_strconv_log10Pow2 (x : Nat) (h : x ≤ 64) (w : World) :
    Calls Tryz.prog 141 #[.int .i64 x] w fun e w' => e = .returned (.int .i64 (Lib.l10 x)) ∧ w' = w := Any.internal_strconv_log10Pow2 Tryz.lays317 x h w
def Tryz.lays318_ren : Go.Shelf.Ren := ⟨fun | 318 => 143 | n => n, fun | 3 => 3 | 4 => 4 | n => n, fun | n => n⟩
theorem Tryz.lays318 : Go.Proofs.Lays.n318 Tryz.prog Tryz.lays318_ren := {
  mixed := by kernel_rfl
  f318 := Tryz.func143.trans (congrArg some (by kernel_rfl))
  t3 := Tryz.underlying3
  a3 := Tryz.isAgg3
  z3 := Tryz.sizeOf3
  v3 := Tryz.zeroValue3
  t4 := Tryz.underlying4
  a4 := Tryz.isAgg4
  z4 := Tryz.sizeOf4
  v4 := Tryz.zeroValue4 }
open Go.Lib in
/-- internal/strconv.bool2: "bool2 converts b to an integer: 1 for true, 0 for false." The world is as it was. (LAID: no walk: one application.) -/
theorem Tryz.internal_strconv_bool2_int (b : Bool) (w : World) :
    Calls Tryz.prog 143 #[.bool b] w fun e w' => e = .returned (.int .i64 (if b then 1 else 0)) ∧ w' = w := Any.internal_strconv_bool2_int Tryz.lays318 b w
def Tryz.lays283_ren : Go.Shelf.Ren := ⟨fun | 283 => 131 | n => n, fun | 3 => 3 | 9 => 9 | 4 => 4 | n => n, fun | n => n⟩
theorem Tryz.lays283 : Go.Proofs.Lays.n283 Tryz.prog Tryz.lays283_ren := {
  mixed := by kernel_rfl
  f283 := Tryz.func131.trans (congrArg some (by kernel_rfl))
  t3 := Tryz.underlying3
  a3 := Tryz.isAgg3
  z3 := Tryz.sizeOf3
  v3 := Tryz.zeroValue3
  t4 := Tryz.underlying4
  a4 := Tryz.isAgg4
  z4 := Tryz.sizeOf4
  v4 := Tryz.zeroValue4
  t9 := Tryz.underlying9
  a9 := Tryz.isAgg9
  z9 := Tryz.sizeOf9
  v9 := Tryz.zeroValue9 }
open Go.Lib in
/-- internal/strconv.small: "small returns the string for an i with 0 <= i < nSmalls.": i's decimal numeral. The world is as it was. (LAID: no walk: one application.) -/
theorem Tryz.internal_strconv_small (i : Nat) (h : i < 100) (w : World) :
    Calls Tryz.prog 131 #[.int .i64 i] w fun e w' => e = .returned (.string ⟨(Lib.decDigits i).toArray⟩) ∧ w' = w := Any.internal_strconv_small Tryz.lays283 i h w
def Tryz.laysM284_ren : Go.Shelf.Ren := ⟨fun | 284 => 132 | 129 => 142 | 317 => 141 | 318 => 143 | n => n, fun | 53 => 74 | 3 => 3 | 212 => 166 | 0 => 0 | 4 => 4 | 46 => 77 | 5 => 5 | 9 => 9 | n => n, fun | 17 => 3 | n => n⟩
theorem Tryz.laysM284 : Go.Proofs.LaysM.n284 Tryz.prog Tryz.laysM284_ren := {
  mixed := by kernel_rfl
  f129 := Tryz.func142.trans (congrArg some (by kernel_rfl))
  f284 := Tryz.func132.trans (congrArg some (by kernel_rfl))
  f317 := Tryz.func141.trans (congrArg some (by kernel_rfl))
  f318 := Tryz.func143.trans (congrArg some (by kernel_rfl))
  t0 := Tryz.underlying0
  a0 := Tryz.isAgg0
  z0 := Tryz.sizeOf0
  v0 := Tryz.zeroValue0
  t3 := Tryz.underlying3
  a3 := Tryz.isAgg3
  z3 := Tryz.sizeOf3
  v3 := Tryz.zeroValue3
  t4 := Tryz.underlying4
  a4 := Tryz.isAgg4
  z4 := Tryz.sizeOf4
  v4 := Tryz.zeroValue4
  t5 := Tryz.underlying5
  a5 := Tryz.isAgg5
  z5 := Tryz.sizeOf5
  v5 := Tryz.zeroValue5
  t9 := Tryz.underlying9
  a9 := Tryz.isAgg9
  z9 := Tryz.sizeOf9
  v9 := Tryz.zeroValue9
  t46 := Tryz.underlying77
  a46 := Tryz.isAgg77
  z46 := Tryz.sizeOf77
  v46 := Tryz.zeroValue77
  t53 := Tryz.underlying74
  a53 := Tryz.isAgg74
  z53 := Tryz.sizeOf74
  v53 := Tryz.zeroValue74
  t212 := Tryz.underlying166
  a212 := Tryz.isAgg166
  z212 := Tryz.sizeOf166
  v212 := Tryz.zeroValue166
  g17 := by kernel_rfl
  i0 := by kernel_rfl
  i3 := by kernel_rfl
  i4 := by kernel_rfl
  i5 := by kernel_rfl
  i9 := by kernel_rfl
  i46 := by kernel_rfl
  i53 := by kernel_rfl
  i212 := by kernel_rfl
  m17 := by kernel_rfl }
open Go.Lib in
/-- internal/strconv.numDigits, at a d that is not 0: THE NUMBER OF d's DECIMAL DIGITS. The world is as it was. (LAID: no walk: one application.) -/
theorem Tryz.internal_strconv_numDigits (u : Nat) (h1 : 1 ≤ u) (h2 : u < 18446744073709551616) (w : World) (htab : Lib.TabIs Tryz.prog w "internal/strconv.uint64pow10" .u64 Lib.pow10Tab) :
    Calls Tryz.prog 132 #[.int .u64 u] w fun e w' => e = .returned (.int .i64 (Lib.nDigits u)) ∧ w' = w := Any.internal_strconv_numDigits Tryz.laysM284 u h1 h2 w htab
def Tryz.lays285_ren : Go.Shelf.Ren := ⟨fun | 285 => 133 | n => n, fun | 37 => 82 | 53 => 74 | 3 => 3 | 4 => 4 | 51 => 22 | 9 => 9 | 5 => 5 | 0 => 0 | n => n, fun | n => n⟩
theorem Tryz.lays285 : Go.Proofs.Lays.n285 Tryz.prog Tryz.lays285_ren := {
  mixed := by kernel_rfl
  f285 := Tryz.func133.trans (congrArg some (by kernel_rfl))
  t0 := Tryz.underlying0
  a0 := Tryz.isAgg0
  z0 := Tryz.sizeOf0
  v0 := Tryz.zeroValue0
  t3 := Tryz.underlying3
  a3 := Tryz.isAgg3
  z3 := Tryz.sizeOf3
  v3 := Tryz.zeroValue3
  t4 := Tryz.underlying4
  a4 := Tryz.isAgg4
  z4 := Tryz.sizeOf4
  v4 := Tryz.zeroValue4
  t5 := Tryz.underlying5
  a5 := Tryz.isAgg5
  z5 := Tryz.sizeOf5
  v5 := Tryz.zeroValue5
  t9 := Tryz.underlying9
  a9 := Tryz.isAgg9
  z9 := Tryz.sizeOf9
  v9 := Tryz.zeroValue9
  t37 := Tryz.underlying82
  a37 := Tryz.isAgg82
  z37 := Tryz.sizeOf82
  v37 := Tryz.zeroValue82
  t51 := Tryz.underlying22
  a51 := Tryz.isAgg22
  z51 := Tryz.sizeOf22
  v51 := Tryz.zeroValue22
  t53 := Tryz.underlying74
  a53 := Tryz.isAgg74
  z53 := Tryz.sizeOf74
  v53 := Tryz.zeroValue74 }
open Go.RowKit Go.Sort Go.Lib in
/-- internal/strconv.formatBase10: "formatBase10 formats the decimal representation of u into a. The caller is responsible for ensuring that a is big enough to hold u. If a is too big, leading zeros will be filled in as needed.": THE ROW HOLDS u's DIGITS ('FmtInv .. 0 ..': every place t holds 'dg u (len - 1 - t)'); all else is as it was but for the count of draws. (LAID: no walk: one application.) -/
theorem Tryz.internal_strconv_formatBase10 (blk off cap : Nat) (u : Nat) (d : Array UInt8) (w : World) (hH : Holds (fun (b : UInt8) => Value.int .u8 (b.toNat : Int)) w blk off d) (hu : u < 10 ^ d.size) (hu64 : u < 18446744073709551616) (hsz : d.size < 4611686018427387904) :
    Calls Tryz.prog 133 #[.slice (some ⟨blk, off, none⟩) d.size cap, .int .u64 u] w fun e w' =>
      e = .returned (.tuple #[]) ∧ ∃ (n v' : Nat) (dk : Array UInt8), w' = (putRow (fun (b : UInt8) => Value.int .u8 (b.toNat : Int)) w blk off dk).drewN n ∧ FmtInv d.size u 0 v' dk := Any.internal_strconv_formatBase10 Tryz.lays285 blk off cap u d w hH hu hu64 hsz
def Tryz.lays217_ren : Go.Shelf.Ren := ⟨fun | 217 => 146 | 266 => 149 | n => n, fun | 9 => 9 | 5 => 5 | 3 => 3 | n => n, fun | n => n⟩
theorem Tryz.lays217 : Go.Proofs.Lays.n217 Tryz.prog Tryz.lays217_ren := {
  mixed := by kernel_rfl
  f217 := Tryz.func146.trans (congrArg some (by kernel_rfl))
  f266 := Tryz.func149.trans (congrArg some (by kernel_rfl))
  t3 := Tryz.underlying3
  a3 := Tryz.isAgg3
  z3 := Tryz.sizeOf3
  v3 := Tryz.zeroValue3
  t5 := Tryz.underlying5
  a5 := Tryz.isAgg5
  z5 := Tryz.sizeOf5
  v5 := Tryz.zeroValue5
  t9 := Tryz.underlying9
  a9 := Tryz.isAgg9
  z9 := Tryz.sizeOf9
  v9 := Tryz.zeroValue9 }
open Go.RowKit Go.Lib in
/-- internal/stringslite.IndexByte (what strings.IndexByte calls): IT RETURNS 'Lib.indexByte s c'; the world is as it was. (LAID: no walk: one application.) -/
theorem Tryz.stringslite_IndexByte (s : ByteArray) (c : Int) (w : World) :
    Calls Tryz.prog 146 #[.string s, .int .u8 c] w fun e w' => e = .returned (.int .i64 (Lib.indexByte s.data.toList c.toNat.toUInt8)) ∧ w' = w := Any.stringslite_IndexByte Tryz.lays217 s c w
def Tryz.lays224_ren : Go.Shelf.Ren := ⟨fun | 224 => 139 | n => n, fun | 3 => 3 | n => n, fun | n => n⟩
theorem Tryz.lays224 : Go.Proofs.Lays.n224 Tryz.prog Tryz.lays224_ren := {
  mixed := by kernel_rfl
  f224 := Tryz.func139.trans (congrArg some (by kernel_rfl))
  t3 := Tryz.underlying3
  a3 := Tryz.isAgg3
  z3 := Tryz.sizeOf3
  v3 := Tryz.zeroValue3 }
open Go.RowKit Go.Lib in
/-- internal/bytealg.Cutover: "Cutover reports the number of failures of IndexByte we should tolerate before switching over to Index. n is the number of bytes processed so far.": on amd64: (n + 16) / 8. (LAID: no walk: one application.) -/
theorem Tryz.bytealg_Cutover (n : Int) (h0 : 0 ≤ n) (h1 : n < 4611686018427387904) (w : World) :
    Calls Tryz.prog 139 #[.int .i64 n] w fun e w' => e = .returned (.int .i64 ((n + 16) / 8)) ∧ w' = w := Any.bytealg_Cutover Tryz.lays224 n h0 h1 w
def Tryz.lays206_ren : Go.Shelf.Ren := ⟨fun | 206 => 78 | n => n, fun | 9 => 9 | 4 => 4 | 3 => 3 | n => n, fun | n => n⟩
theorem Tryz.lays206 : Go.Proofs.Lays.n206 Tryz.prog Tryz.lays206_ren := {
  mixed := by kernel_rfl
  f206 := Tryz.func78.trans (congrArg some (by kernel_rfl))
  t3 := Tryz.underlying3
  a3 := Tryz.isAgg3
  z3 := Tryz.sizeOf3
  v3 := Tryz.zeroValue3
  t4 := Tryz.underlying4
  a4 := Tryz.isAgg4
  z4 := Tryz.sizeOf4
  v4 := Tryz.zeroValue4
  t9 := Tryz.underlying9
  a9 := Tryz.isAgg9
  z9 := Tryz.sizeOf9
  v9 := Tryz.zeroValue9 }
open Go.RowKit Go.Lib in
/-- internal/stringslite.HasPrefix (what strings.HasPrefix calls). (LAID: no walk: one application.) -/
theorem Tryz.stringslite_HasPrefix (s p : ByteArray) (w : World) :
    Calls Tryz.prog 78 #[.string s, .string p] w fun e w' => e = .returned (.bool (Lib.hasPrefix s.data.toList p.data.toList)) ∧ w' = w := Any.stringslite_HasPrefix Tryz.lays206 s p w
def Tryz.lays99_ren : Go.Shelf.Ren := ⟨fun | 99 => 43 | 206 => 78 | n => n, fun | 9 => 9 | 4 => 4 | 3 => 3 | n => n, fun | n => n⟩
theorem Tryz.lays99 : Go.Proofs.Lays.n99 Tryz.prog Tryz.lays99_ren := {
  mixed := by kernel_rfl
  f99 := Tryz.func43.trans (congrArg some (by kernel_rfl))
  f206 := Tryz.func78.trans (congrArg some (by kernel_rfl))
  t3 := Tryz.underlying3
  a3 := Tryz.isAgg3
  z3 := Tryz.sizeOf3
  v3 := Tryz.zeroValue3
  t4 := Tryz.underlying4
  a4 := Tryz.isAgg4
  z4 := Tryz.sizeOf4
  v4 := Tryz.zeroValue4
  t9 := Tryz.underlying9
  a9 := Tryz.isAgg9
  z9 := Tryz.sizeOf9
  v9 := Tryz.zeroValue9 }
open Go.RowKit Go.Lib in
/-- strings.HasPrefix: "HasPrefix reports whether the string s begins with prefix.": IT RETURNS 'Lib.hasPrefix s prefix'; the world is as it was. (LAID: no walk: one application.) -/
theorem Tryz.strings_HasPrefix (s p : ByteArray) (w : World) :
    Calls Tryz.prog 43 #[.string s, .string p] w fun e w' => e = .returned (.bool (Lib.hasPrefix s.data.toList p.data.toList)) ∧ w' = w := Any.strings_HasPrefix Tryz.lays99 s p w
def Tryz.lays152_ren : Go.Shelf.Ren := ⟨fun | 152 => 130 | 137 => 137 | 119 => 138 | 224 => 139 | 225 => 140 | 217 => 146 | 266 => 149 | n => n, fun | 9 => 9 | 21 => 21 | 3 => 3 | 4 => 4 | 5 => 5 | 0 => 0 | 46 => 77 | n => n, fun | n => n⟩
theorem Tryz.lays152 : Go.Proofs.Lays.n152 Tryz.prog Tryz.lays152_ren := {
  mixed := by kernel_rfl
  f119 := Tryz.func138.trans (congrArg some (by kernel_rfl))
  f137 := Tryz.func137.trans (congrArg some (by kernel_rfl))
  f152 := Tryz.func130.trans (congrArg some (by kernel_rfl))
  f217 := Tryz.func146.trans (congrArg some (by kernel_rfl))
  f224 := Tryz.func139.trans (congrArg some (by kernel_rfl))
  f225 := Tryz.func140.trans (congrArg some (by kernel_rfl))
  f266 := Tryz.func149.trans (congrArg some (by kernel_rfl))
  t0 := Tryz.underlying0
  a0 := Tryz.isAgg0
  z0 := Tryz.sizeOf0
  v0 := Tryz.zeroValue0
  t3 := Tryz.underlying3
  a3 := Tryz.isAgg3
  z3 := Tryz.sizeOf3
  v3 := Tryz.zeroValue3
  t4 := Tryz.underlying4
  a4 := Tryz.isAgg4
  z4 := Tryz.sizeOf4
  v4 := Tryz.zeroValue4
  t5 := Tryz.underlying5
  a5 := Tryz.isAgg5
  z5 := Tryz.sizeOf5
  v5 := Tryz.zeroValue5
  t9 := Tryz.underlying9
  a9 := Tryz.isAgg9
  z9 := Tryz.sizeOf9
  v9 := Tryz.zeroValue9
  t21 := Tryz.underlying21
  a21 := Tryz.isAgg21
  z21 := Tryz.sizeOf21
  v21 := Tryz.zeroValue21
  t46 := Tryz.underlying77
  a46 := Tryz.isAgg77
  z46 := Tryz.sizeOf77
  v46 := Tryz.zeroValue77 }
open Go.RowKit Go.Lib in
theorem Tryz.strings_IndexRune_ascii (s : ByteArray) (r : Int) (w : World) (h0 : 0 ≤ r) (h1 : r < 128) :
    Calls Tryz.prog 130 #[.string s, .int .i32 r] w fun e w' => e = .returned (.int .i64 (Lib.indexByte s.data.toList r.toNat.toUInt8)) ∧ w' = w := Any.strings_IndexRune_ascii Tryz.lays152 s r w h0 h1
def Tryz.lays151_ren : Go.Shelf.Ren := ⟨fun | 151 => 117 | 152 => 130 | 137 => 137 | 119 => 138 | 224 => 139 | 225 => 140 | 217 => 146 | 266 => 149 | n => n, fun | 9 => 9 | 21 => 21 | 4 => 4 | 3 => 3 | 5 => 5 | 0 => 0 | 46 => 77 | n => n, fun | n => n⟩
theorem Tryz.lays151 : Go.Proofs.Lays.n151 Tryz.prog Tryz.lays151_ren := {
  mixed := by kernel_rfl
  f119 := Tryz.func138.trans (congrArg some (by kernel_rfl))
  f137 := Tryz.func137.trans (congrArg some (by kernel_rfl))
  f151 := Tryz.func117.trans (congrArg some (by kernel_rfl))
  f152 := Tryz.func130.trans (congrArg some (by kernel_rfl))
  f217 := Tryz.func146.trans (congrArg some (by kernel_rfl))
  f224 := Tryz.func139.trans (congrArg some (by kernel_rfl))
  f225 := Tryz.func140.trans (congrArg some (by kernel_rfl))
  f266 := Tryz.func149.trans (congrArg some (by kernel_rfl))
  t0 := Tryz.underlying0
  a0 := Tryz.isAgg0
  z0 := Tryz.sizeOf0
  v0 := Tryz.zeroValue0
  t3 := Tryz.underlying3
  a3 := Tryz.isAgg3
  z3 := Tryz.sizeOf3
  v3 := Tryz.zeroValue3
  t4 := Tryz.underlying4
  a4 := Tryz.isAgg4
  z4 := Tryz.sizeOf4
  v4 := Tryz.zeroValue4
  t5 := Tryz.underlying5
  a5 := Tryz.isAgg5
  z5 := Tryz.sizeOf5
  v5 := Tryz.zeroValue5
  t9 := Tryz.underlying9
  a9 := Tryz.isAgg9
  z9 := Tryz.sizeOf9
  v9 := Tryz.zeroValue9
  t21 := Tryz.underlying21
  a21 := Tryz.isAgg21
  z21 := Tryz.sizeOf21
  v21 := Tryz.zeroValue21
  t46 := Tryz.underlying77
  a46 := Tryz.isAgg77
  z46 := Tryz.sizeOf77
  v46 := Tryz.zeroValue77 }
open Go.RowKit Go.Lib in
theorem Tryz.strings_ContainsRune_ascii (s : ByteArray) (r : Int) (w : World) (h0 : 0 ≤ r) (h1 : r < 128) :
    Calls Tryz.prog 117 #[.string s, .int .i32 r] w fun e w' => e = .returned (.bool (decide (0 ≤ Lib.indexByte s.data.toList r.toNat.toUInt8))) ∧ w' = w := Any.strings_ContainsRune_ascii Tryz.lays151 s r w h0 h1
def Tryz.lays227_ren : Go.Shelf.Ren := ⟨fun | 227 => 90 | n => n, fun | 9 => 9 | 116 => 122 | 4 => 4 | 0 => 0 | 3 => 3 | 5 => 5 | n => n, fun | n => n⟩
theorem Tryz.lays227 : Go.Proofs.Lays.n227 Tryz.prog Tryz.lays227_ren := {
  mixed := by kernel_rfl
  f227 := Tryz.func90.trans (congrArg some (by kernel_rfl))
  t0 := Tryz.underlying0
  a0 := Tryz.isAgg0
  z0 := Tryz.sizeOf0
  v0 := Tryz.zeroValue0
  t3 := Tryz.underlying3
  a3 := Tryz.isAgg3
  z3 := Tryz.sizeOf3
  v3 := Tryz.zeroValue3
  t4 := Tryz.underlying4
  a4 := Tryz.isAgg4
  z4 := Tryz.sizeOf4
  v4 := Tryz.zeroValue4
  t5 := Tryz.underlying5
  a5 := Tryz.isAgg5
  z5 := Tryz.sizeOf5
  v5 := Tryz.zeroValue5
  t9 := Tryz.underlying9
  a9 := Tryz.isAgg9
  z9 := Tryz.sizeOf9
  v9 := Tryz.zeroValue9
  t116 := Tryz.underlying122
  a116 := Tryz.isAgg122
  z116 := Tryz.sizeOf122 }
open Go.RowKit Go.Lib in
theorem Tryz.strings_makeASCIISet (hv116 : ∀ w, (zeroValue 122).run Tryz.prog w = .ok (.agg (Array.replicate 256 (.bool false))) w) (chars : ByteArray) (w : World) (hs : chars.size < 4294967281) (hascii : ∀ (j : Nat) b, chars.data.toList[j]? = some b → b.toNat < 128) :
    Calls Tryz.prog 90 #[.string chars] w fun e w' => e = .returned (.tuple #[.agg (Lib.setCells chars.data.toList), .bool true]) ∧ w' = w.alloc (.cells (Lib.setCells chars.data.toList) 122) := Any.strings_makeASCIISet Tryz.lays227 hv116 (by kernel_rfl) chars w hs hascii
def Tryz.lays228_ren : Go.Shelf.Ren := ⟨fun | 228 => 115 | n => n, fun | 124 => 126 | 5 => 5 | 4 => 4 | 0 => 0 | 116 => 122 | n => n, fun | n => n⟩
theorem Tryz.lays228 : Go.Proofs.Lays.n228 Tryz.prog Tryz.lays228_ren := {
  mixed := by kernel_rfl
  f228 := Tryz.func115.trans (congrArg some (by kernel_rfl))
  t0 := Tryz.underlying0
  a0 := Tryz.isAgg0
  z0 := Tryz.sizeOf0
  v0 := Tryz.zeroValue0
  t4 := Tryz.underlying4
  a4 := Tryz.isAgg4
  z4 := Tryz.sizeOf4
  v4 := Tryz.zeroValue4
  t5 := Tryz.underlying5
  a5 := Tryz.isAgg5
  z5 := Tryz.sizeOf5
  v5 := Tryz.zeroValue5
  t116 := Tryz.underlying122
  a116 := Tryz.isAgg122
  z116 := Tryz.sizeOf122
  t124 := Tryz.underlying126
  a124 := Tryz.isAgg126
  z124 := Tryz.sizeOf126
  v124 := Tryz.zeroValue126 }
open Go.RowKit Go.Lib in
/-- '(as *asciiSet) contains(c)': 'as[c]': the set lies at block b, whole. (LAID: no walk: one application.) -/
theorem Tryz.asciiSet_contains (b : Nat) (x : UInt8) (v : Bool) (w : World) (hc : w.cell? ⟨b, x.toNat, none⟩ = some (.bool v)) :
    Calls Tryz.prog 115 #[.pointer (some ⟨b, 0, none⟩), .int .u8 x.toNat] w fun e w' => e = .returned (.bool v) ∧ w' = w := Any.asciiSet_contains Tryz.lays228 b x v w hc
def Tryz.lays264_ren : Go.Shelf.Ren := ⟨fun | 264 => 80 | n => n, fun | 53 => 74 | 46 => 77 | n => n, fun | n => n⟩
theorem Tryz.lays264 : Go.Proofs.Lays.n264 Tryz.prog Tryz.lays264_ren := {
  mixed := by kernel_rfl
  f264 := Tryz.func80.trans (congrArg some (by kernel_rfl))
  t46 := Tryz.underlying77
  a46 := Tryz.isAgg77
  z46 := Tryz.sizeOf77
  v46 := Tryz.zeroValue77
  t53 := Tryz.underlying74
  a53 := Tryz.isAgg74
  z53 := Tryz.sizeOf74
  v53 := Tryz.zeroValue74 }
open Go.RowKit Go.Lib in
theorem Tryz.bits_Mul64 (x y : Nat) (hx : x < 18446744073709551616) (hy : y < 18446744073709551616) (w : World) :
    Calls Tryz.prog 80 #[.int .u64 x, .int .u64 y] w fun e w' => e = .returned (.tuple #[.int .u64 ((x * y / 18446744073709551616 : Nat) : Int), .int .u64 ((x * y % 18446744073709551616 : Nat) : Int)]) ∧ w' = w := Any.bits_Mul64 Tryz.lays264 x y hx hy w
def Tryz.lays212_ren : Go.Shelf.Ren := ⟨fun | 212 => 42 | 263 => 79 | 264 => 80 | n => n, fun | 46 => 77 | 51 => 22 | 146 => 110 | 53 => 74 | 148 => 112 | n => n, fun | n => n⟩
theorem Tryz.lays212 : Go.Proofs.Lays.n212 Tryz.prog Tryz.lays212_ren := {
  mixed := by kernel_rfl
  f212 := Tryz.func42.trans (congrArg some (by kernel_rfl))
  f263 := Tryz.func79.trans (congrArg some (by kernel_rfl))
  f264 := Tryz.func80.trans (congrArg some (by kernel_rfl))
  t46 := Tryz.underlying77
  a46 := Tryz.isAgg77
  z46 := Tryz.sizeOf77
  v46 := Tryz.zeroValue77
  t51 := Tryz.underlying22
  a51 := Tryz.isAgg22
  z51 := Tryz.sizeOf22
  v51 := Tryz.zeroValue22
  t53 := Tryz.underlying74
  a53 := Tryz.isAgg74
  z53 := Tryz.sizeOf74
  v53 := Tryz.zeroValue74
  t146 := Tryz.underlying110
  a146 := Tryz.isAgg110
  z146 := Tryz.sizeOf110
  v146 := Tryz.zeroValue110
  t148 := Tryz.underlying112
  a148 := Tryz.isAgg112
  z148 := Tryz.sizeOf112
  v148 := Tryz.zeroValue112 }
open Go.RowKit Go.Lib in
/-- math/bits.Mul: "Mul returns the full-width product of x and y": on a machine of 64 bits: Mul64's. (LAID: no walk: one application.) -/
theorem Tryz.bits_Mul (x y : Nat) (hx : x < 18446744073709551616) (hy : y < 18446744073709551616) (w : World) :
    Calls Tryz.prog 42 #[.int .u64 x, .int .u64 y] w fun e w' => e = .returned (.tuple #[.int .u64 ((x * y / 18446744073709551616 : Nat) : Int), .int .u64 ((x * y % 18446744073709551616 : Nat) : Int)]) ∧ w' = w := Any.bits_Mul Tryz.lays212 x y hx hy w
def Tryz.lays105_ren : Go.Shelf.Ren := ⟨fun | 105 => 23 | 212 => 42 | 99 => 43 | 165 => 44 | 166 => 45 | 170 => 46 | 169 => 47 | 263 => 79 | 264 => 80 | 206 => 78 | 240 => 81 | 241 => 82 | 276 => 107 | 277 => 108 | n => n, fun | 9 => 9 | 3 => 3 | 4 => 4 | 20 => 20 | 0 => 0 | 46 => 77 | 109 => 78 | 5 => 5 | 72 => 84 | 76 => 88 | 51 => 22 | 146 => 110 | 53 => 74 | 148 => 112 | 70 => 81 | 37 => 82 | 75 => 87 | 127 => 114 | 164 => 136 | 80 => 91 | n => n, fun | n => n⟩
theorem Tryz.lays105 : Go.Proofs.Lays.n105 Tryz.prog Tryz.lays105_ren := {
  mixed := by kernel_rfl
  f99 := Tryz.func43.trans (congrArg some (by kernel_rfl))
  f105 := Tryz.func23.trans (congrArg some (by kernel_rfl))
  f165 := Tryz.func44.trans (congrArg some (by kernel_rfl))
  f166 := Tryz.func45.trans (congrArg some (by kernel_rfl))
  f169 := Tryz.func47.trans (congrArg some (by kernel_rfl))
  f170 := Tryz.func46.trans (congrArg some (by kernel_rfl))
  f206 := Tryz.func78.trans (congrArg some (by kernel_rfl))
  f212 := Tryz.func42.trans (congrArg some (by kernel_rfl))
  f240 := Tryz.func81.trans (congrArg some (by kernel_rfl))
  f241 := Tryz.func82.trans (congrArg some (by kernel_rfl))
  f263 := Tryz.func79.trans (congrArg some (by kernel_rfl))
  f264 := Tryz.func80.trans (congrArg some (by kernel_rfl))
  f276 := Tryz.func107.trans (congrArg some (by kernel_rfl))
  f277 := Tryz.func108.trans (congrArg some (by kernel_rfl))
  t0 := Tryz.underlying0
  a0 := Tryz.isAgg0
  z0 := Tryz.sizeOf0
  v0 := Tryz.zeroValue0
  t3 := Tryz.underlying3
  a3 := Tryz.isAgg3
  z3 := Tryz.sizeOf3
  v3 := Tryz.zeroValue3
  t4 := Tryz.underlying4
  a4 := Tryz.isAgg4
  z4 := Tryz.sizeOf4
  v4 := Tryz.zeroValue4
  t5 := Tryz.underlying5
  a5 := Tryz.isAgg5
  z5 := Tryz.sizeOf5
  v5 := Tryz.zeroValue5
  t9 := Tryz.underlying9
  a9 := Tryz.isAgg9
  z9 := Tryz.sizeOf9
  v9 := Tryz.zeroValue9
  t20 := Tryz.underlying20
  a20 := Tryz.isAgg20
  z20 := Tryz.sizeOf20
  v20 := Tryz.zeroValue20
  t37 := Tryz.underlying82
  a37 := Tryz.isAgg82
  z37 := Tryz.sizeOf82
  v37 := Tryz.zeroValue82
  t46 := Tryz.underlying77
  a46 := Tryz.isAgg77
  z46 := Tryz.sizeOf77
  v46 := Tryz.zeroValue77
  t51 := Tryz.underlying22
  a51 := Tryz.isAgg22
  z51 := Tryz.sizeOf22
  v51 := Tryz.zeroValue22
  t53 := Tryz.underlying74
  a53 := Tryz.isAgg74
  z53 := Tryz.sizeOf74
  v53 := Tryz.zeroValue74
  t70 := Tryz.underlying81
  a70 := Tryz.isAgg81
  z70 := Tryz.sizeOf81
  v70 := Tryz.zeroValue81
  t72 := Tryz.underlying84
  a72 := Tryz.isAgg84
  z72 := Tryz.sizeOf84
  v72 := Tryz.zeroValue84
  t75 := Tryz.underlying87
  a75 := Tryz.isAgg87
  z75 := Tryz.sizeOf87
  v75 := Tryz.zeroValue87
  t76 := Tryz.underlying88
  a76 := Tryz.isAgg88
  z76 := Tryz.sizeOf88
  v76 := Tryz.zeroValue88
  t109 := Tryz.underlying78
  a109 := Tryz.isAgg78
  z109 := Tryz.sizeOf78
  v109 := Tryz.zeroValue78
  t127 := Tryz.underlying114
  a127 := Tryz.isAgg114
  z127 := Tryz.sizeOf114
  v127 := Tryz.zeroValue114
  t146 := Tryz.underlying110
  a146 := Tryz.isAgg110
  z146 := Tryz.sizeOf110
  v146 := Tryz.zeroValue110
  t148 := Tryz.underlying112
  a148 := Tryz.isAgg112
  z148 := Tryz.sizeOf112
  v148 := Tryz.zeroValue112
  t164 := Tryz.underlying136
  a164 := Tryz.isAgg136
  z164 := Tryz.sizeOf136
  v164 := Tryz.zeroValue136 }
theorem Tryz.Builder_Extra_105 : Builder.Extra Tryz.prog Tryz.lays105_ren := {
  sizeBuilder := by kernel_rfl
  liesBuilder := by kernel_rfl
  t5 := Tryz.underlying5
  a5 := Tryz.isAgg5
  z5 := Tryz.sizeOf5
  v5 := Tryz.zeroValue5
  infoByte := by kernel_rfl
  cellsByte := by kernel_rfl
  sizeByte := by kernel_rfl
  neB5 := by decide }
open Go.RowKit Go.Lib in
/-- THE MAIN CASE: at least two copies of a string that is not empty. (LAID: no walk: one application.) -/
theorem Tryz.strings_Repeat_main (s : ByteArray) (c : Nat) (w : World) (hc2 : 2 ≤ c) (hc : c ≤ 9223372036854775807) (hlen : s.size * c ≤ 140737488355328) (h0 : 0 < s.size) :
    Calls Tryz.prog 23 #[.string s, .int .i64 c] w fun e w' => e = .returned (.string ⟨(Lib.repeatL s.data.toList c).toArray⟩) ∧ Below w.heap.size w w' := Any.strings_Repeat_main Tryz.lays105 Tryz.Builder_Extra_105 s c w hc2 hc hlen h0
open Go.RowKit Go.Lib in
theorem Tryz.strings_Repeat_zero (s : ByteArray) (w : World) :
    Calls Tryz.prog 23 #[.string s, .int .i64 0] w fun e w' => e = .returned (.string ⟨#[]⟩) ∧ w' = w := Any.strings_Repeat_zero Tryz.lays105 s w
open Go.RowKit Go.Lib in
theorem Tryz.strings_Repeat_one (s : ByteArray) (w : World) :
    Calls Tryz.prog 23 #[.string s, .int .i64 1] w fun e w' => e = .returned (.string s) ∧ w' = w := Any.strings_Repeat_one Tryz.lays105 s w
open Go.RowKit Go.Lib in
/-- Copies of the empty string. (LAID: no walk: one application.) -/
theorem Tryz.strings_Repeat_empty (s : ByteArray) (c : Nat) (w : World) (hc2 : 2 ≤ c) (hc : c ≤ 9223372036854775807) (h0 : s.size = 0) :
    Calls Tryz.prog 23 #[.string s, .int .i64 c] w fun e w' => e = .returned (.string ⟨#[]⟩) ∧ w' = w := Any.strings_Repeat_empty Tryz.lays105 s c w hc2 hc h0
open Go.RowKit Go.Lib in
/-- count < 0: "It panics if count is negative". (LAID: no walk: one application.) -/
theorem Tryz.strings_Repeat_negative (s : ByteArray) (c : Int) (w : World) (hc : c < 0) :
    Calls Tryz.prog 23 #[.string s, .int .i64 c] w fun e w' => e = .panicked [{ v := repeatPanic Tryz.lays105_ren "strings: negative Repeat count", recovered := false }] ∧ w' = w := Any.strings_Repeat_negative Tryz.lays105 s c w hc
open Go.RowKit Go.Lib in
/-- len(s) * count is no int: ".. or if the result of (len(s) * count) overflows". (LAID: no walk: one application.) -/
theorem Tryz.strings_Repeat_overflow (s : ByteArray) (c : Nat) (w : World) (hc : c ≤ 9223372036854775807) (hs : s.size ≤ 9223372036854775807) (hbig : 9223372036854775807 < s.size * c) :
    Calls Tryz.prog 23 #[.string s, .int .i64 c] w fun e w' => e = .panicked [{ v := repeatPanic Tryz.lays105_ren "strings: Repeat output length overflow", recovered := false }] ∧ w' = w := Any.strings_Repeat_overflow Tryz.lays105 s c w hc hs hbig
open Go.RowKit Go.Lib in
/-- **strings.Repeat: count ≥ 0, the result within one allocation: count copies of s.** (LAID: no walk: one application.) -/
theorem Tryz.strings_Repeat (s : ByteArray) (c : Nat) (w : World) (hc : c ≤ 9223372036854775807) (hlen : s.size * c ≤ 140737488355328) :
    Calls Tryz.prog 23 #[.string s, .int .i64 c] w fun e w' => e = .returned (.string ⟨(Lib.repeatL s.data.toList c).toArray⟩) ∧ Below w.heap.size w w' := Any.strings_Repeat Tryz.lays105 Tryz.Builder_Extra_105 s c w hc hlen
def Tryz.lays260_ren : Go.Shelf.Ren := ⟨fun | 260 => 129 | n => n, fun | 9 => 9 | 21 => 21 | 3 => 3 | 4 => 4 | 5 => 5 | 119 => 158 | 0 => 0 | 46 => 77 | 139 => 161 | 138 => 160 | n => n, fun | 3 => 1 | 4 => 2 | n => n⟩
theorem Tryz.lays260 : Go.Proofs.Lays.n260 Tryz.prog Tryz.lays260_ren := {
  mixed := by kernel_rfl
  f260 := Tryz.func129.trans (congrArg some (by kernel_rfl))
  t0 := Tryz.underlying0
  a0 := Tryz.isAgg0
  z0 := Tryz.sizeOf0
  v0 := Tryz.zeroValue0
  t3 := Tryz.underlying3
  a3 := Tryz.isAgg3
  z3 := Tryz.sizeOf3
  v3 := Tryz.zeroValue3
  t4 := Tryz.underlying4
  a4 := Tryz.isAgg4
  z4 := Tryz.sizeOf4
  v4 := Tryz.zeroValue4
  t5 := Tryz.underlying5
  a5 := Tryz.isAgg5
  z5 := Tryz.sizeOf5
  v5 := Tryz.zeroValue5
  t9 := Tryz.underlying9
  a9 := Tryz.isAgg9
  z9 := Tryz.sizeOf9
  v9 := Tryz.zeroValue9
  t21 := Tryz.underlying21
  a21 := Tryz.isAgg21
  z21 := Tryz.sizeOf21
  v21 := Tryz.zeroValue21
  t46 := Tryz.underlying77
  a46 := Tryz.isAgg77
  z46 := Tryz.sizeOf77
  v46 := Tryz.zeroValue77
  t119 := Tryz.underlying158
  a119 := Tryz.isAgg158
  z119 := Tryz.sizeOf158
  t138 := Tryz.underlying160
  a138 := Tryz.isAgg160
  z138 := Tryz.sizeOf160
  v138 := Tryz.zeroValue160
  t139 := Tryz.underlying161
  a139 := Tryz.isAgg161
  z139 := Tryz.sizeOf161
  v139 := Tryz.zeroValue161
  g3 := by kernel_rfl
  g4 := by kernel_rfl }
open Go.RowKit Go.Lib in
theorem Tryz.utf8_decodeRuneInStringSlow (s : ByteArray) (w : World) (hT : Lib.Utf8Tabs 1 2 w) :
    Calls Tryz.prog 129 #[.string s] w fun e w' => e = .returned (.tuple #[.int .i32 (Lib.decodeGo s).1, .int .i64 (Lib.decodeGo s).2]) ∧ Below w.heap.size w w' := Any.utf8_decodeRuneInStringSlow Tryz.lays260 s w hT
end Go.Proofs

/-
  What nat.long computes: a number divided by one of two limbs or more.
-/
namespace Go.Proofs.YtfiefglagknclaaGreatDoor
open Go.RowKit
set_option maxHeartbeats 1000000
set_option maxRecDepth 100000
set_option linter.unusedVariables false

theorem U_append (a b : List Nat) : U (a ++ b) = U a ++ U b := by simp [U]

/-- takeOff at a window of limbs. -/
theorem takeOff_at (G c c' T j n : Nat) (A' : Option Addr) (P a Q d : List Nat) (w : World) (hblk : Blk w G 22 (U (P ++ (a ++ Q)))) (hP : P.length = j) (hy : Lies w G A' (U d)) (ha : Nt.Ok a) (hd : Nt.Ok d) (hla : a.length = n + 1) (hld : d.length = n) (hc : n + 1 ≤ c) (hc' : n ≤ c') (hm : c ≤ 9223372036854775807) (hm' : c' ≤ 9223372036854775807) (hT : T < 4294967296) (hs : n ≤ 1000000) :
    Calls Tryz.prog 112 #[.slice (some ⟨G, j, none⟩) (n + 1) c, .slice A' n c', .int .u64 (T : Int)] w fun e w' => ∃ (win : List Nat) (b : Nat), e = .returned (.bool (decide (b = 1))) ∧ b ≤ 1 ∧ Blk w' G 22 (U (P ++ (win ++ Q))) ∧ Hid (win.length = n + 1 ∧ Nt.Ok win ∧ Nt.val win + T * Nt.val d = Nt.val a + b * 4294967296 ^ (n + 1)) ∧ w.grownBy w' (some G) := by
  subst hld
  subst hP
  rw [U_append, U_append] at hblk
  have h := takeOff_any G c c' T A' (U P) (U Q) a d w hblk hy ha hd hla hc hc' hm hm' hT hs
  rw [U_len] at h
  refine h.mono ?_
  rintro e w' ⟨win, b, he, hb, hblk', H, hg⟩
  refine ⟨win, b, he, hb, by rw [U_append, U_append]; exact hblk', Lib.hid ⟨by rw [H.out.1, hla], H.out.2.1, H.out.2.2⟩, hg⟩
theorem putBack_at (G c c' j n : Nat) (A' : Option Addr) (P a Q d : List Nat) (w : World) (hblk : Blk w G 22 (U (P ++ (a ++ Q)))) (hP : P.length = j) (hy : Lies w G A' (U d)) (ha : Nt.Ok a) (hd : Nt.Ok d) (hla : a.length = n + 1) (hld : d.length = n) (hc : n + 1 ≤ c) (hc' : n ≤ c') (hm : c ≤ 9223372036854775807) (hm' : c' ≤ 9223372036854775807) (hs : n ≤ 1000000) :
    Calls Tryz.prog 113 #[.slice (some ⟨G, j, none⟩) (n + 1) c, .slice A' n c'] w fun e w' => ∃ (win : List Nat) (b : Nat), e = .returned (.tuple #[]) ∧ Blk w' G 22 (U (P ++ (win ++ Q))) ∧ Hid (win.length = n + 1 ∧ Nt.Ok win ∧ Nt.val win + b * 4294967296 ^ (n + 1) = Nt.val a + Nt.val d) ∧ w.grownBy w' (some G) := by
  subst hld
  subst hP
  rw [U_append, U_append] at hblk
  have h := putBack_any G c c' A' (U P) (U Q) a d w hblk hy ha hd hla hc hc' hm hm' hs
  rw [U_len] at h
  refine h.mono ?_
  rintro e w' ⟨win, b, he, hblk', H, hg⟩
  refine ⟨win, b, he, by rw [U_append, U_append]; exact hblk', Lib.hid ⟨by rw [H.out.1, hla], H.out.2.1, H.out.2.2⟩, hg⟩
/-- estimate at a window of limbs. -/
theorem estimate_at (G c c' j n : Nat) (A' : Option Addr) (P a Q d : List Nat) (w : World) (hblk : Blk w G 22 (U (P ++ (a ++ Q)))) (hP : P.length = j) (hy : Lies w G A' (U d)) (ha : Nt.Ok a) (hd : Nt.Ok d) (hla : a.length = n + 1) (hld : d.length = n) (hn : 2 ≤ n) (hs : n ≤ 1000000)
    (h31 : ∀ h : n - 1 < d.length, 2147483648 ≤ d[n - 1]) (hlt : Nt.val a < 4294967296 * Nt.val d) (hc : n + 1 ≤ c) (hc' : n ≤ c') :
    Calls Tryz.prog 111 #[.slice (some ⟨G, j, none⟩) (n + 1) c, .slice A' n c'] w fun e w' => ∃ g : Nat, e = .returned (.int .u64 (g : Int)) ∧ Hid (Nt.val a / Nt.val d ≤ g ∧ g ≤ Nt.val a / Nt.val d + 1) ∧ g < 4294967296 ∧ ∃ k, w' = w.drewN k := by
  have hg := hblk.lt
  refine estimate_any (some ⟨G, j, none⟩) A' c c' w.heap.size n a d w ?_ (hy.more (by omega)) ha hd hla hld hn hs h31 hlt hc hc'
  refine .inr ⟨G, j, rfl, hg, fun i v hv => ?_⟩
  rw [U_append, U_append] at hblk
  refine hblk.cell ?_
  rw [List.getElem?_append_right (by rw [U_len]; omega), U_len, hP, Nat.add_sub_cancel_left, List.getElem?_append_left]
  · exact hv
  · rcases Nat.lt_or_ge i (U a).length with h | h
    · exact h
    · rw [List.getElem?_eq_none h] at hv; cases hv
end Go.Proofs.YtfiefglagknclaaGreatDoor

/-
  nat.long, walked.
-/
namespace Go.Proofs.YtfiefglagknclaaGreatDoor
open Go.RowKit
set_option maxHeartbeats 1000000
set_option maxRecDepth 100000
set_option linter.unusedVariables false

/-- What the round of nat.long's loop computes, in plain words. -/
theorem long_round {X D n k g b : Nat} {cur quo win : List Nat} (h : Nt.LongAt X D n cur quo (k + 1)) (hk : k < quo.length) (hD : 0 < D)
    (hg : Nt.val ((cur.drop k).take (n + 1)) / D ≤ g) (hg2 : g ≤ Nt.val ((cur.drop k).take (n + 1)) / D + 1) (hg3 : g < 4294967296)
    (hwl : win.length = n + 1) (hwo : Nt.Ok win) (e : Nt.val win + g * D = Nt.val ((cur.drop k).take (n + 1)) + b * 4294967296 ^ (n + 1)) (hb : b ≤ 1) :
    (b = 0 → Nt.LongAt X D n (cur.take k ++ (win ++ cur.drop (k + (n + 1)))) (quo.set k g) k) ∧
    (b = 1 → 1 ≤ g ∧ ∀ (win2 : List Nat) (e' : Nat), win2.length = n + 1 → Nt.Ok win2 → Nt.val win2 + e' * 4294967296 ^ (n + 1) = Nt.val win + D → Nt.LongAt X D n (cur.take k ++ (win2 ++ cur.drop (k + (n + 1)))) (quo.set k (g - 1)) k) := by
  obtain ⟨w1, w2, w3, w4, w5, w6⟩ := h.window hk
  have hR := Nt.val_lt w2
  rw [w1] at hR
  have hV := Nt.val_lt hwo
  rw [hwl] at hV
  have hDp : D < 4294967296 ^ (n + 1) := by
    have := h.hi
    rw [Nat.pow_succ]
    omega
  obtain ⟨r0, r1⟩ := Nt.round_ok hg hg2 hD hR hV e hb hDp
  refine ⟨fun h0 => ?_, fun h1 => ?_⟩
  · obtain ⟨_, a2, a3⟩ := r0 h0
    exact h.step hk hwl hwo hg3 a2 a3
  · obtain ⟨a1, a2⟩ := r1 h1
    refine ⟨by rw [a1]; exact Nat.le_add_left _ _, fun win2 e' l2 o2 e2 => ?_⟩
    have hW := Nt.val_lt o2
    rw [l2] at hW
    obtain ⟨c1, c2⟩ := a2 _ e' hW e2
    exact h.step hk l2 o2 (by omega) c1 c2

theorem long_any : LongSaid := by
  intro A A' c c' B x y w hx hy hB hc hc' hm hm' hlx hly hyx
  have hy0 : y ≠ 0 := by
    intro h
    rw [h, Nt.digs_zero] at hly
    simp at hly
  obtain ⟨n, hnn⟩ : ∃ n, n = (Nt.digs y).length := ⟨_, rfl⟩
  obtain ⟨m, hmm⟩ : ∃ m, m = (Nt.digs x).length := ⟨_, rfl⟩
  have hnm : n ≤ m := by rw [hnn, hmm]; exact Nt.digs_len_le_of hyx
  rw [← hnn] at hc' hly ⊢
  rw [← hmm] at hc hlx ⊢
  obtain ⟨b2, o2, rfl, hb2, htop⟩ := hy.limb (k := n - 1) (by omega)
  have htne : (Nt.digs y)[n - 1]'(by omega) ≠ 0 := by
    have h := Nt.top_digs y (by intro h; rw [h] at hnn; simp at hnn; omega)
    rw [List.getLast_eq_getElem] at h
    simpa [← hnn] using h
  have htb := Nt.ok_get (Nt.ok_digs y) (i := n - 1) (by omega)
  obtain ⟨t, htt⟩ : ∃ t, t = (Nt.digs y)[n - 1]'(by omega) := ⟨_, rfl⟩
  rw [← htt] at htop htne htb
  obtain ⟨hL, hL1, hlo, hhi⟩ := Nt.shift_of htne htb
  obtain ⟨s, hss⟩ : ∃ s, s = 32 - Lib.bitLen t := ⟨_, rfl⟩
  rw [← hss] at hlo hhi
  have hs32 : s < 32 := by omega
  have LZ : Hid (∀ w, Calls Tryz.prog 109 #[.int .u32 (t : Int)] w fun e w' => e = .returned (.int .i64 (s : Int)) ∧ w = w') := Lib.hid (fun w => (Tryz.bits_LeadingZeros32 (t : Int) w (by omega) (by omega)).mono (by
    rintro e w' ⟨rfl, rfl⟩
    refine ⟨ret_int ?_, rfl⟩
    rw [Int.toNat_natCast, hss]; omega))
  have UB := Lib.hid (fun w' (hw : Below B w w') (hB' : B ≤ w'.heap.size) => up_any (some ⟨b2, o2, none⟩) c' B s (Nt.digs y) w' (hy.below hw) hB' (Nt.ok_digs y) (by omega) hm' (by omega) hs32)
  have UA := Lib.hid (fun w' (hw : Below B w w') (hB' : B ≤ w'.heap.size) => up_any A c B s (Nt.digs x) w' (hx.below hw) hB' (Nt.ok_digs x) (by omega) hm (by omega) hs32)
  rw [Nt.val_digs, ← hnn] at UB
  rw [Nt.val_digs, ← hmm] at UA
  have SC : Hid (∀ cur : List Nat, Nt.Ok cur → cur.length = n + 1 → Nt.val cur = y * 2 ^ s → y * 2 ^ s < 4294967296 ^ n ∧ Nt.val (cur.take n) = y * 2 ^ s ∧ Nt.Ok (cur.take n) ∧ (cur.take n).length = n ∧ ∀ h : n - 1 < (cur.take n).length, 2147483648 ≤ (cur.take n)[n - 1]) := Lib.hid (by
    obtain ⟨q, rfl⟩ : ∃ q, n = q + 1 := ⟨n - 1, by omega⟩
    intro cur ok hl hv
    exact Nt.div_scaled (y := y) (s := s) (m := q) (t := t) hnn.symm (by simpa using htt) (by omega) hlo hhi ok hl hv)
  have hxm : x < 4294967296 ^ m := by have := Nt.val_lt (Nt.ok_digs x); rwa [Nt.val_digs, ← hmm] at this
  have hyn : 4294967296 ^ (n - 1) ≤ y := by have := Nt.digs_ge hy0; rwa [← hnn] at this
  have ST : Hid (∀ cur : List Nat, Nt.Ok cur → Nt.val cur = x * 2 ^ s → cur.length = m + 1 → y * 2 ^ s < 4294967296 ^ n → Nt.LongAt (x * 2 ^ s) (y * 2 ^ s) n cur (List.replicate (m - n + 1) 0) (m - n + 1)) :=
    Lib.hid (fun cur ok hv hl hD => Nt.LongAt.start ok hv hl hnm (by omega) hxm hyn hD)
  have hD0 : Hid (0 < y * 2 ^ s) := Lib.hid (Nat.mul_pos (by omega) (Nat.two_pow_pos s))
  have HY0 : 0 < y := by omega
  obtain ⟨i0, hi, hz0, hz1, hz2⟩ := info_parts u32_info
  clear hx hy hnn hmm htt hss hlo hhi hL hL1 hxm hyn hy0
  go_enter Tryz.func88, Tryz.ntmps88
  go_wp2_with fail
  refine (LZ.out _).mono ?_
  rintro e w' ⟨rfl, rfl⟩
  go_wp2_with fail
  refine (UB.out w (Below.refl _ _) hB).mono ?_
  rintro e w1 ⟨cd, rfl, hblkd, HD, hb1⟩
  have hb1B : Below B w w1 := hb1.mono hB
  have hsz1 := hb1.size
  have hlt1 := hblkd.lt
  go_wp2_with fail
  refine (UA.out w1 hb1B (by omega)).mono ?_
  rintro e w2 ⟨cr, rfl, hblkr, HR, hb2'⟩
  have hsz2 := hb2'.size
  have hlt2 := hblkr.lt
  have hb02 : Below w.heap.size w w2 := hb1.trans (hb2'.mono hsz1)
  have hblkd2 := hblkd.keep hb2' hlt1
  clear hblkd hb2'
  go_wp2_with (at_make; refine wpList_make_blk _ rfl _ _ 24 rfl 22 i0 (.int .u32 0) Tryz.underlying24 hi hz0 hz1 rfl .i64 .i64 _ _ (m - n + 1) (m - n + 1) rfl rfl (by omega) (by omega) (Nat.le_refl _) (by rw [hz2]; omega) (by omega) w.heap.size w hb02 (by omega) ?_; intro w3 hblkq hb03 hb23 hlt3)
  have hblkr3 := hblkr.keep hb23 hlt2
  have hblkd3 := hblkd2.keep hb23 (by omega)
  have hblkq3 : Blk w3 w2.heap.size 22 (U (List.replicate (m - n + 1) 0)) := by simpa [U] using hblkq
  clear hblkr hblkd2 hblkq hb23
  obtain ⟨hDn, hvd, hod, hld, h31⟩ := SC.out cd HD.out.1 HD.out.2.1 HD.out.2.2
  have hS0 := Lib.hid (ST.out cr HR.out.1 HR.out.2.2 HR.out.2.1 hDn)
  have HHD := Lib.hid (And.intro hvd (And.intro hod (And.intro hld h31)))
  have HCD := Lib.hid HD.out.2.1
  clear HD HR SC ST UA UB LZ hDn hvd hod hld h31
  go_loopw [11, 12] (fun i gv wr => ∃ (k : Nat) (cur quo : List Nat), k ≤ m - n + 1 ∧ i = .int .i64 ((k : Int) - 1) ∧ Blk wr w1.heap.size 22 (U cur) ∧ Blk wr w2.heap.size 22 (U quo) ∧ Blk wr w.heap.size 22 (U cd) ∧ Below w.heap.size w wr ∧ Hid (quo.length = m - n + 1 ∧ Nt.LongAt (x * 2 ^ s) (y * 2 ^ s) n cur quo k)) (fun i _ _ => (intOf i + 1).toNat)
  case atStart => exact ⟨m - n + 1, cr, _, Nat.le_refl _, congrArg (Value.int .i64) (by omega), hblkr3, hblkq3, hblkd3, hb03, Lib.hid ⟨by simp, hS0.out⟩⟩
  case round =>
    clear hblkr3 hblkq3 hblkd3 hb03 hS0
    obtain ⟨k, cur, quo, hk, rfl, hbr, hbq, hbd, hbel, H⟩ := hrel
    rcases k with _ | k
    · obtain ⟨hql, HL⟩ := H.out
      obtain ⟨hdq, hdr⟩ := HL.done HY0
      have hcl : cur.length = m + 1 := by have := HL.len; rw [hql] at this; omega
      have hltq := hbq.lt
      have TR : Hid (∀ wx : World, Blk wx w2.heap.size 22 (U quo) → Calls Tryz.prog 83 #[.slice (some ⟨w2.heap.size, 0, none⟩) (m - n + 1) (m - n + 1)] wx fun e w' => e = .returned (.slice (some ⟨w2.heap.size, 0, none⟩) (Nt.digs (x / y)).length (Nt.digs (x / y)).length) ∧ wx = w') := Lib.hid (fun wx hbx => by
        have h := trim_any (some ⟨w2.heap.size, 0, none⟩) (m - n + 1) wx.heap.size quo wx hbx.lies HL.okq (by omega) (by omega)
        rw [hql, hdq] at h
        exact h)
      have hlr : Lies wr wr.heap.size (some ⟨w1.heap.size, 0, none⟩) (U (cur.take n)) := by rw [← U_take]; exact hbr.lies.take n
      have DN := down_any (some ⟨w1.heap.size, 0, none⟩) (m + 1) wr.heap.size s (cur.take n) wr.drew hlr (Nat.le_refl _) (Nt.ok_take HL.ok n) (by rw [List.length_take]; omega) (by omega) (by rw [List.length_take]; omega) hs32
      rw [hdr, List.length_take, hcl, Nat.min_eq_left (show n ≤ m + 1 by omega)] at DN
      have DNH := Lib.hid DN
      have HQI : Hid (∀ wx : World, Blk wx w2.heap.size 22 (U quo) → IsRes wx (.slice (some ⟨w2.heap.size, 0, none⟩) (Nt.digs (x / y)).length (Nt.digs (x / y)).length) (Nt.digs (x / y))) := Lib.hid (fun wx hbx => by
        have h := hbx.lies.digs HL.okq
        have h2 := Nt.digs_len_le HL.okq
        rw [hdq] at h h2
        rw [hql] at h2
        exact ⟨_, _, rfl, Nat.le_refl _, by omega, (fun h => by cases h), h⟩)
      have HBQ := Lib.hid hbq
      clear hql HL hdq hdr hcl hlr DN H hbr hbd hbq
      have hn1 : n ≤ m + 1 := by omega
      go_wp2_with fail
      go_region_with (first
        | (go_at_call 83; refine (TR.out _ (by first | exact HBQ.out | exact HBQ5.out)).mono ?_; rintro e w' ⟨rfl, rfl⟩)
        | (go_at_call 114; refine DNH.out.mono ?_; rintro e w5 ⟨vd, rfl, hres5, hb5⟩; have hbel5 : Below wr.heap.size wr w5 := ⟨hb5.os, hb5.tape, hb5.output, hb5.size, hb5.block⟩; clear hb5; have HBQ5 := Lib.hid (HBQ.out.keep hbel5 hltq)))
      all_goals
        go_wp2_with fail
        go_ret2
        exact ⟨_, _, rfl, HQI.out _ HBQ5.out, hres5, hbel.trans (hbel5.mono hbel.size)⟩
    · have hk1 : ((k + 1 : Nat) : Int) - 1 = (k : Int) := by omega
      rw [hk1]
      clear hk1
      have hkq : k < quo.length := by rw [H.out.1]; omega
      obtain ⟨v1, v2, v3, v4, v5, v6⟩ := H.out.2.window hkq
      have hcl : cur.length = m + 1 := by have := H.out.2.len; rw [H.out.1] at this; omega
      have hbr' : Blk wr w1.heap.size 22 (U (cur.take k ++ ((cur.drop k).take (n + 1) ++ cur.drop (k + (n + 1))))) := by rw [← v5]; exact hbr
      have hld : Lies wr w1.heap.size (some ⟨w.heap.size, 0, none⟩) (U (cd.take n)) := by
        rw [← U_take]
        refine Lies.take ?_ n
        refine .inr ⟨w.heap.size, 0, rfl, by omega, fun i v hv => ?_⟩
        rw [Nat.zero_add]; exact hbd.cell hv
      have ES := Lib.hid (estimate_at w1.heap.size (m + 1 - k) (n + 1) k n (some ⟨w.heap.size, 0, none⟩) (cur.take k) ((cur.drop k).take (n + 1)) (cur.drop (k + (n + 1))) (cd.take n) wr hbr' v6 hld v2 HHD.out.2.1 v1 HHD.out.2.2.1 hly (by omega) HHD.out.2.2.2 (by rw [HHD.out.1]; exact v3) (by omega) (by omega))
      have TK := Lib.hid (fun (g j : Nat) (hg : g < 4294967296) => takeOff_at w1.heap.size (m + 1 - k) (n + 1) g k n (some ⟨w.heap.size, 0, none⟩) (cur.take k) ((cur.drop k).take (n + 1)) (cur.drop (k + (n + 1))) (cd.take n) (wr.drewN j) hbr' v6 hld v2 HHD.out.2.1 v1 HHD.out.2.2.1 (by omega) (by omega) (by omega) (by omega) hg (by omega))
      have LR := Lib.hid (fun g b win => long_round (g := g) (b := b) (win := win) H.out.2 hkq hD0.out)
      rw [HHD.out.1] at ES TK
      have V6 := Lib.hid v6
      have HQL := Lib.hid H.out.1
      have hkm : k + n < m + 1 := by omega
      have hkc : k < m + 1 := by omega
      clear v1 v2 v3 v4 v5 v6 hcl hbr' hbr H
      generalize Nt.val ((cur.drop k).take (n + 1)) = R at *
      have hwl : k + n + 1 - k = n + 1 := by omega
      go_wp2_with fail
      refine ES.out.mono ?_
      rintro e w' ⟨g, rfl, HG, hg3, j, rfl⟩
      have TKg := Lib.hid (TK.out g j hg3)
      clear TK ES
      go_wp2_with fail
      refine TKg.out.mono ?_
      rintro e w4 ⟨win, b, rfl, hb1, hbr4, HW, hgr4⟩
      have hgr : wr.grownBy w4 (some w1.heap.size) := ⟨hgr4.os, hgr4.tape, hgr4.output, hgr4.size, hgr4.block⟩
      have hbq4 := hbq.grown hgr (by intro h; injection h with h; omega)
      have hbd4 := hbd.grown hgr (by intro h; injection h with h; omega)
      have hbel4 : Below w.heap.size w w4 := hbel.grown hgr hbel.size (fun k hk => by injection hk with hk; omega)
      have hR := LR.out g b win HG.out.1 HG.out.2 hg3 HW.out.1 HW.out.2.1 HW.out.2.2 hb1
      have hsz4 := hbel4.size
      have hltq := hbq4.lt
      clear hgr hgr4 hbq hbd hbel TKg LR
      rcases (show b = 0 ∨ b = 1 by omega) with rfl | rfl
      · have HN := Lib.hid (hR.1 rfl)
        clear hR
        have hcell : w4.cell? ⟨w2.heap.size, k, none⟩ = some (.int .u32 ((quo[k] : Nat) : Int)) := hbq4.cell (by rw [U, List.getElem?_map, List.getElem?_eq_getElem (by omega)]; rfl)
        have hfz := hbq4.frozen k
        generalize quo[k] = o at hcell
        have BS : Hid (Blk (w4.setCell ⟨w2.heap.size, k, none⟩ (.int .u32 (g : Int))) w2.heap.size 22 (U (quo.set k g))) := Lib.hid (by
          have := hbq4.set_ k (.int .u32 (g : Int))
          rw [show (U quo).set k (.int .u32 (g : Int)) = U (quo.set k g) from List.map_set.symm] at this
          exact this)
        have BR := Lib.hid (hbr4.far (p := ⟨w2.heap.size, k, none⟩) (by show w1.heap.size ≠ w2.heap.size; omega) (.int .u32 (g : Int)))
        have BD := Lib.hid (hbd4.far (p := ⟨w2.heap.size, k, none⟩) (by show w.heap.size ≠ w2.heap.size; omega) (.int .u32 (g : Int)))
        clear hbr4 hbd4 hbq4
        rw [show decide ((0 : Nat) = 1) = false from rfl]
        go_wp2_with fail
        refine ⟨⟨k, _, _, by omega, by go_num, BR.out, BS.out, BD.out, hbel4.setCell (by show w.heap.size ≤ w2.heap.size; omega) _, Lib.hid ⟨by rw [List.length_set]; exact HQL.out, HN.out⟩⟩, by simp [intOf]; try omega⟩
      · obtain ⟨hg1, hN⟩ := hR.2 rfl
        have HN := Lib.hid hN
        clear hR hN
        have hld4 : Lies w4 w1.heap.size (some ⟨w.heap.size, 0, none⟩) (U (cd.take n)) := by
          rw [← U_take]
          refine Lies.take ?_ n
          refine .inr ⟨w.heap.size, 0, rfl, by omega, fun i v hv => ?_⟩
          rw [Nat.zero_add]; exact hbd4.cell hv
        have PB := Lib.hid (putBack_at w1.heap.size (m + 1 - k) (n + 1) k n (some ⟨w.heap.size, 0, none⟩) (cur.take k) win (cur.drop (k + (n + 1))) (cd.take n) w4 hbr4 V6.out hld4 HW.out.2.1 HHD.out.2.1 HW.out.1 HHD.out.2.2.1 (by omega) (by omega) (by omega) (by omega) (by omega))
        rw [HHD.out.1] at PB
        clear hbr4 hld4
        rw [show decide ((1 : Nat) = 1) = true from rfl]
        go_wp2_with fail
        refine PB.out.mono ?_
        rintro e w5 ⟨win2, b', rfl, hbr5, HW2, hgr⟩
        have hbq5 := hbq4.grown hgr (by intro h; injection h with h; omega)
        have hbd5 := hbd4.grown hgr (by intro h; injection h with h; omega)
        have hbel5 : Below w.heap.size w w5 := hbel4.grown hgr hbel4.size (fun k hk => by injection hk with hk; omega)
        have hsz5 := hbel5.size
        have hltq5 := hbq5.lt
        clear hgr hbq4 hbd4 hbel4 PB
        have HN2 := Lib.hid (HN.out win2 b' HW2.out.1 HW2.out.2.1 HW2.out.2.2)
        have hcell : w5.cell? ⟨w2.heap.size, k, none⟩ = some (.int .u32 ((quo[k] : Nat) : Int)) := hbq5.cell (by rw [U, List.getElem?_map, List.getElem?_eq_getElem (by omega)]; rfl)
        have hfz := hbq5.frozen k
        generalize quo[k] = o at hcell
        have BS : Hid (Blk (w5.setCell ⟨w2.heap.size, k, none⟩ (.int .u32 ((g - 1 : Nat) : Int))) w2.heap.size 22 (U (quo.set k (g - 1)))) := Lib.hid (by
          have := hbq5.set_ k (.int .u32 ((g - 1 : Nat) : Int))
          rw [show (U quo).set k (.int .u32 ((g - 1 : Nat) : Int)) = U (quo.set k (g - 1)) from List.map_set.symm] at this
          exact this)
        have BR := Lib.hid (hbr5.far (p := ⟨w2.heap.size, k, none⟩) (by show w1.heap.size ≠ w2.heap.size; omega) (.int .u32 ((g - 1 : Nat) : Int)))
        have BD := Lib.hid (hbd5.far (p := ⟨w2.heap.size, k, none⟩) (by show w.heap.size ≠ w2.heap.size; omega) (.int .u32 ((g - 1 : Nat) : Int)))
        have e1 : ((g - 1 : Nat) : Int) = (g : Int) - 1 := by omega
        rw [e1] at BS BR BD
        clear hbr5 hbd5 hbq5 e1
        go_wp2_with fail
        refine ⟨⟨k, _, _, by omega, by go_num, BR.out, BS.out, BD.out, hbel5.setCell (by show w.heap.size ≤ w2.heap.size; omega) _, Lib.hid ⟨by rw [List.length_set]; exact HQL.out, HN2.out⟩⟩, by simp [intOf]; try omega⟩
end Go.Proofs.YtfiefglagknclaaGreatDoor

/-
  The contracts of chapter 2's functions at numbers that calls handed back ('IsRes').
-/
namespace Go.Proofs.YtfiefglagknclaaGreatDoor
open Go.RowKit
set_option maxHeartbeats 1000000
set_option maxRecDepth 100000
set_option linter.unusedVariables false

theorem IsRes.of_lies {w : World} {A : Option Addr} {c : Nat} {l : List Nat} (hl : Lies w w.heap.size A (U l)) (hc : l.length ≤ c) (hm : c ≤ 9223372036854775807) (hA : A = none → c = 0) : IsRes w (.slice A l.length c) l := ⟨A, c, rfl, hc, hm, hA, hl⟩

section
variable {w0 w : World} {v1 v2 : Value} {l1 l2 : List Nat}

theorem divMod_res (h1 : IsRes w v1 l1) (h2 : IsRes w v2 l2) (o1 : Nt.Ok l1) (o2 : Nt.Ok l2) (s1 : l1.length ≤ 1000000) (s2 : l2.length ≤ 1000000) (hb : Below w0.heap.size w0 w) :
    Calls Tryz.prog 51 #[v1, v2] w fun e w' => ∃ u1 u2, e = .returned (.tuple #[u1, u2, .bool (decide (Nt.val l2 ≠ 0))]) ∧ IsRes w' u1 (Nt.digs (Nt.quo (Nt.val l1) (Nt.val l2))) ∧ IsRes w' u2 (Nt.digs (Nt.rest (Nt.val l1) (Nt.val l2))) ∧ Below w0.heap.size w0 w' ∧ Below w.heap.size w w' := by
  obtain ⟨A, c, rfl, a1, a2, a3, a4⟩ := h1
  obtain ⟨A', c', rfl, b1, b2, b3, b4⟩ := h2
  refine (divMod_any A A' c c' w.heap.size l1 l2 w a4 b4 (Nat.le_refl _) o1 o2 a1 b1 a2 b2 s1 s2 (.inr long_any)).mono ?_
  rintro e w' ⟨u1, u2, rfl, r1, r2, hb'⟩
  exact ⟨u1, u2, rfl, r1, r2, hb.trans (hb'.mono hb.size), hb'⟩
theorem refDivMod_res (h1 : IsRes w v1 l1) (h2 : IsRes w v2 l2) (o1 : Nt.Ok l1) (o2 : Nt.Ok l2) (s1 : l1.length ≤ 1000000) (s2 : l2.length ≤ 1000000) (hb : Below w0.heap.size w0 w) :
    Calls Tryz.prog 55 #[v1, v2] w fun e w' => ∃ u1 u2, e = .returned (.tuple #[u1, u2, .bool (decide (Nt.val l2 ≠ 0))]) ∧ IsRes w' u1 (Nt.digs (Nt.quo (Nt.val l1) (Nt.val l2))) ∧ IsRes w' u2 (Nt.digs (Nt.rest (Nt.val l1) (Nt.val l2))) ∧ Below w0.heap.size w0 w' ∧ Below w.heap.size w w' := by
  obtain ⟨A, c, rfl, a1, a2, a3, a4⟩ := h1
  obtain ⟨A', c', rfl, b1, b2, b3, b4⟩ := h2
  refine (refDivMod_any A A' c c' w.heap.size l1 l2 w a4 b4 (Nat.le_refl _) o1 o2 a1 b1 a2 b2 b3 s1 s2).mono ?_
  rintro e w' ⟨u1, u2, rfl, r1, r2, hb'⟩
  exact ⟨u1, u2, rfl, r1, r2, hb.trans (hb'.mono hb.size), hb'⟩
theorem cmp_res (h1 : IsRes w v1 l1) (h2 : IsRes w v2 l2) (o1 : Nt.Ok l1) (o2 : Nt.Ok l2) (hb : Below w0.heap.size w0 w) :
    Calls Tryz.prog 86 #[v1, v2] w fun e w' => e = .returned (.int .i64 (Nt.cmp (Nt.val l1) (Nt.val l2))) ∧ Below w0.heap.size w0 w' ∧ Below w.heap.size w w' := by
  obtain ⟨A, c, rfl, a1, a2, a3, a4⟩ := h1
  obtain ⟨A', c', rfl, b1, b2, b3, b4⟩ := h2
  refine (cmp_any A A' c c' w.heap.size l1 l2 w a4 b4 o1 o2 a1 b1 a2 b2).mono ?_
  rintro e w' ⟨rfl, k, rfl⟩
  have hb1 : Below w.heap.size w (w.drewN k) := ⟨rfl, rfl, rfl, Nat.le_refl _, fun _ _ => rfl⟩
  exact ⟨rfl, hb.trans (hb1.mono hb.size), hb1⟩
theorem refNorm_res (h1 : IsRes w v1 l1) (o1 : Nt.Ok l1) (s1 : l1.length ≤ 1000000) (hb : Below w0.heap.size w0 w) :
    Calls Tryz.prog 38 #[v1] w fun e w' => ∃ v, e = .returned v ∧ IsRes w' v (Nt.digs (Nt.val l1)) ∧ Below w0.heap.size w0 w' ∧ Below w.heap.size w w' := by
  obtain ⟨A, c, rfl, a1, a2, a3, a4⟩ := h1
  refine (refNorm_any A c w.heap.size l1 w a4 (Nat.le_refl _) o1 a1 a2 a3 (by omega)).mono ?_
  rintro e w' ⟨v, rfl, r, hb'⟩
  exact ⟨v, rfl, r, hb.trans (hb'.mono hb.size), hb'⟩
theorem norm_res (h1 : IsRes w v1 l1) (o1 : Nt.Ok l1) (s1 : l1.length ≤ 1000000) (hb : Below w0.heap.size w0 w) :
    Calls Tryz.prog 48 #[v1] w fun e w' => ∃ v, e = .returned v ∧ IsRes w' v (Nt.digs (Nt.val l1)) ∧ Below w0.heap.size w0 w' ∧ Below w.heap.size w w' := by
  have hd := Nt.digs_len_le o1
  obtain ⟨A, c, rfl, a1, a2, a3, a4⟩ := h1
  refine (norm_any A c w.heap.size l1 w a4 (Nat.le_refl _) o1 a1 a2 (by omega)).mono ?_
  rintro e w' ⟨rfl, r, hb'⟩
  exact ⟨_, rfl, ⟨_, _, rfl, Nat.le_refl _, by omega, (fun h => by cases h), r.lies⟩, hb.trans (hb'.mono hb.size), hb'⟩
end

end Go.Proofs.YtfiefglagknclaaGreatDoor

/-
  What nat.Gcd and scrimref02.Gcd compute: the greatest number that divides both.
-/
namespace Go.Proofs.YtfiefglagknclaaGreatDoor
open Go.RowKit
set_option maxHeartbeats 1000000
set_option maxRecDepth 100000
set_option linter.unusedVariables false

/-- Greatest common divisors of limbs: what a round needs. -/
theorem gcd_any (A A' : Option Addr) (c c' : Nat) (a b : List Nat) (w : World) (hx : IsRes w (.slice A a.length c) a) (hy : IsRes w (.slice A' b.length c') b) (ha : Nt.Ok a) (hb : Nt.Ok b) (hs : a.length ≤ 1000000) (hs' : b.length ≤ 1000000) :
    Calls Tryz.prog 50 #[.slice A a.length c, .slice A' b.length c'] w fun e w' => ∃ v, e = .returned v ∧ IsRes w' v (Nt.digs (Nat.gcd (Nt.val a) (Nt.val b))) ∧ Below w.heap.size w w' := by
  have ha' := Nt.digs_len_le ha
  have hb' := Nt.digs_len_le hb
  obtain ⟨_, _, e1, a1, a2, a3, a4⟩ := hx
  obtain ⟨_, _, e2, b1, b2, b3, b4⟩ := hy
  injection e1 with e1 _ e1'; subst e1 e1'
  injection e2 with e2 _ e2'; subst e2 e2'
  have TA := Lib.hid (trim_any A c w.heap.size a w a4 ha a1 a2)
  have TB := Lib.hid (trim_any A' c' w.heap.size b w b4 hb b1 b2)
  have RA : Hid (∀ A', A' = A → IsRes w (.slice A (Nt.digs (Nt.val a)).length (Nt.digs (Nt.val a)).length) (Nt.digs (Nt.val a))) := Lib.hid (fun _ _ => ⟨A, _, rfl, Nat.le_refl _, by omega, (fun h => by have := a3 h; omega), a4.digs ha⟩)
  have RB : Hid (IsRes w (.slice A' (Nt.digs (Nt.val b)).length (Nt.digs (Nt.val b)).length) (Nt.digs (Nt.val b))) := Lib.hid ⟨A', _, rfl, Nat.le_refl _, by omega, (fun h => by have := b3 h; omega), b4.digs hb⟩
  clear a1 a2 a3 a4 b1 b2 b3 b4 ha hb
  have hla : (Nt.digs (Nt.val a)).length ≤ 1000000 := by omega
  have hlb : (Nt.digs (Nt.val b)).length ≤ 1000000 := by omega
  clear ha' hb' hs hs'
  obtain ⟨x0, hx0⟩ : ∃ x, x = Nt.val a := ⟨_, rfl⟩
  obtain ⟨y0, hy0⟩ : ∃ y, y = Nt.val b := ⟨_, rfl⟩
  rw [← hx0] at TA RA hla ⊢
  rw [← hy0] at TB RB hlb ⊢
  clear hx0 hy0
  go_enter Tryz.func50, Tryz.ntmps50
  go_wp2_with fail
  refine TA.out.mono ?_
  rintro e w' ⟨rfl, rfl⟩
  go_wp2_with fail
  refine TB.out.mono ?_
  rintro e w' ⟨rfl, rfl⟩
  go_wp2_with fail
  go_loopg [0, 1] y0 (fun gk av bv wr => ∃ (A A' : Option Addr) (c c' x y : Nat), av = .slice A (Nt.digs x).length c ∧ bv = .slice A' (Nt.digs y).length c' ∧ y ≤ gk ∧ Hid (IsRes wr (.slice A (Nt.digs x).length c) (Nt.digs x) ∧ IsRes wr (.slice A' (Nt.digs y).length c') (Nt.digs y)) ∧ (Nt.digs x).length ≤ 1000000 ∧ (Nt.digs y).length ≤ 1000000 ∧ Hid (Nat.gcd x y = Nat.gcd x0 y0) ∧ Below w.heap.size w wr)
  case atStart => exact ⟨_, _, _, _, x0, y0, rfl, rfl, Nat.le_refl _, Lib.hid ⟨RA.out _ rfl, RB.out⟩, hla, hlb, Lib.hid rfl, Below.refl _ _⟩
  case round =>
    clear TA TB RA RB hla hlb
    obtain ⟨P, P', k, k', x, y, rfl, rfl, hyk, HR, hlx, hly, HG, hbel⟩ := hrel
    by_cases h0 : y = 0
    · subst h0
      have HZ : Hid ((Nt.digs 0).length = 0) := Lib.hid (by rw [Nt.digs_zero]; rfl)
      have NA := Lib.hid (norm_res (w0 := w) HR.out.1 (Nt.ok_digs x) hlx hbel)
      have HE : Hid (Nat.gcd x0 y0 = x) := Lib.hid (by rw [← HG.out, Nat.gcd_zero_right])
      rw [Nt.val_digs] at NA
      rw [HZ.out]
      clear HR HG
      go_wp2_with fail
      refine NA.out.mono ?_
      rintro e w1 ⟨v, rfl, hr, hb1, _⟩
      go_wp2_with fail
      go_ret
      exact ⟨_, rfl, by rw [HE.out]; exact hr, hb1⟩
    · have hlp : 0 < (Nt.digs y).length := by
        rcases Nat.eq_zero_or_pos (Nt.digs y).length with h | h
        · exact absurd (Nt.digs_nil_iff.1 (List.eq_nil_of_length_eq_zero h)) h0
        · exact h
      by_cases h2 : (Nt.digs x).length ≤ 2 ∧ (Nt.digs y).length ≤ 2
      · obtain ⟨h2x, h2y⟩ := h2
        obtain ⟨⟨_, _, e1, a1, a2, a3, a4⟩, ⟨_, _, e2, b1, b2, b3, b4⟩⟩ := HR.out
        injection e1 with e1 _ e1'; subst e1 e1'
        injection e2 with e2 _ e2'; subst e2 e2'
        have WA := Lib.hid (word_any P k wr.heap.size (Nt.digs x) wr a4 (Nt.ok_digs x) h2x)
        have WB := Lib.hid (word_any P' k' wr.heap.size (Nt.digs y) wr b4 (Nt.ok_digs y) h2y)
        rw [Nt.val_digs] at WA WB
        have hxa : x < 18446744073709551616 := by
          have h := Nt.val_lt (Nt.ok_digs x)
          rw [Nt.val_digs] at h
          exact Nat.lt_of_lt_of_le h (Nat.le_trans (Nat.pow_le_pow_right (by omega) h2x) (by decide))
        have hxb : y < 18446744073709551616 := by
          have h := Nt.val_lt (Nt.ok_digs y)
          rw [Nt.val_digs] at h
          exact Nat.lt_of_lt_of_le h (Nat.le_trans (Nat.pow_le_pow_right (by omega) h2y) (by decide))
        clear HR a1 a2 a3 a4 b1 b2 b3 b4
        go_wp2_with fail
        refine WA.out.mono ?_
        rintro e w' ⟨rfl, rfl⟩
        go_wp2_with fail
        refine WB.out.mono ?_
        rintro e w' ⟨rfl, rfl⟩
        go_wp2_with fail
        refine (small_any x y _ hxa hxb).mono ?_
        rintro e w1 ⟨v, rfl, hr, hb1⟩
        go_wp2_with fail
        go_ret
        exact ⟨_, rfl, by rw [← HG.out]; exact hr, hbel.trans (hb1.mono hbel.size)⟩
      · have DM := Lib.hid (divMod_res (w0 := w) HR.out.1 HR.out.2 (Nt.ok_digs x) (Nt.ok_digs y) hlx hly hbel)
        rw [Nt.val_digs, Nt.val_digs, Nt.rest_pos h0] at DM
        have hyp : x % y < y := Nat.mod_lt _ (by omega)
        have hlr : (Nt.digs (x % y)).length ≤ 1000000 := by
          have h := Nt.digs_len_le_of (Nat.le_of_lt hyp)
          omega
        have HG2 : Hid (Nat.gcd y (x % y) = Nat.gcd x0 y0) := Lib.hid (by rw [Nt.gcd_step]; exact HG.out)
        have HRY := Lib.hid HR.out.2
        clear HR HG h0
        obtain ⟨r, hr⟩ : ∃ r, r = x % y := ⟨_, rfl⟩
        rw [← hr] at DM hyp hlr HG2
        clear hr
        by_cases h2x : (Nt.digs x).length ≤ 2
        · have h2y : ¬ (Nt.digs y).length ≤ 2 := fun h => h2 ⟨h2x, h⟩
          clear h2
          go_wp2_with fail
          refine DM.out.mono ?_
          rintro e w1 ⟨u1, u2, rfl, hr1, hr2, hb1, hb01⟩
          have hry := HRY.out.below hb01
          obtain ⟨A2, c2, rfl, q1, q2, q3, q4⟩ := hr2
          have hr2' : IsRes w1 (.slice A2 (Nt.digs r).length c2) (Nt.digs r) := ⟨A2, c2, rfl, q1, q2, q3, q4⟩
          clear q1 q2 q3 q4 hr1 hb01 HRY DM
          have HRN := Lib.hid (And.intro hry hr2')
          clear hry hr2'
          go_wp2_with fail
          go_roundg r
          case measure => omega
          case rel => exact ⟨_, _, _, _, y, r, rfl, rfl, Nat.le_refl _, HRN, hly, hlr, HG2, hb1⟩
        · clear h2
          go_wp2_with fail
          refine DM.out.mono ?_
          rintro e w1 ⟨u1, u2, rfl, hr1, hr2, hb1, hb01⟩
          have hry := HRY.out.below hb01
          obtain ⟨A2, c2, rfl, q1, q2, q3, q4⟩ := hr2
          have hr2' : IsRes w1 (.slice A2 (Nt.digs r).length c2) (Nt.digs r) := ⟨A2, c2, rfl, q1, q2, q3, q4⟩
          clear q1 q2 q3 q4 hr1 hb01 HRY DM
          have HRN := Lib.hid (And.intro hry hr2')
          clear hry hr2'
          go_wp2_with fail
          go_roundg r
          case measure => omega
          case rel => exact ⟨_, _, _, _, y, r, rfl, rfl, Nat.le_refl _, HRN, hly, hlr, HG2, hb1⟩
end Go.Proofs.YtfiefglagknclaaGreatDoor
