/-
  Texts of this proof, joined (by wip/bin/bundle.py): Shelf, Fmt, NatPar, NatPar2, Dig5, Long4, Long5, NatRes, Gcd1, Dig3, NatTxt, NatTxt2.
-/
import Derived.Test.YtceplkpjnebnfaaGreatDoorM8
import Derived.Shelf.Strings.Builder1
import Derived.Shelf.Strings.Builder2
import Derived.Shelf.Strings.Trim
import Derived.Shelf.Small.Utf8
import Derived.Shelf.Small.Bits
import Derived.Shelf.Small.Strs
import Derived.Shelf.Small.Wraps
import Derived.Shelf.Strings.BuilderF
import Derived.Shelf.Strings.BuilderK
import Derived.Shelf.Utf8.AppendRune
import Derived.Shelf.Utf8.AppendRunePlain
import Derived.Shelf.Strconv.Itoa0
import Derived.Shelf.Strconv.Itoa1
import Derived.Shelf.LaysM
import Derived.Shelf.Strconv.Itoa2
import Derived.Shelf.Strings.Search1
import Derived.Shelf.Strings.Prefix
import Derived.Shelf.Strings.Runes
import Derived.Shelf.Strings.AsciiSet
import Derived.Shelf.Bits.Mul64
import Derived.Shelf.Strings.Repeat
import Derived.Shelf.Unicode.DecodeSlow
import Derived.Test.YtceplkpjnebnfaaGreatDoorProg
import Derived.Lib.ItoaMem
import Derived.Lib.Walk
import Derived.Lib.Hide
import Derived.WalkKit
import Derived.BigCall
import Derived.BigGuard
import Derived.ProofKit
import Derived.Below
import Derived.Deep.RegionWith
import Derived.Deep.LoopGhost
/-
  DERIVED: THE SHELF's CONTRACTS AT THIS DUMP, IN PLAIN WORDS (tools/lay-plain.mjs out of 'YtceplkpjnebnfaaGreatDoorShelf.lean', which tools/lay-shelf.mjs wrote): THE SAME DECLARATIONS UNDER THE SAME NAMES: 'import', 'namespace', 'open', 'def', 'theorem' AND NOTHING ELSE: no command of the shelf's: FOR A HAND-IN. Each laying: the table of numbers ('.._ren') and one theorem, a field a fact of the dump's own or the kernel's comparison; each contract: ONE APPLICATION.
-/
namespace Go.Proofs
open Go.Shelf
def Tryz.lays169_ren : Go.Shelf.Ren := ⟨fun | 169 => 22 | n => n, fun | 70 => 39 | 9 => 9 | 0 => 0 | 72 => 42 | 37 => 40 | 127 => 75 | 3 => 3 | 5 => 5 | n => n, fun | n => n⟩
theorem Tryz.lays169 : Go.Proofs.Lays.n169 Tryz.prog Tryz.lays169_ren := {
  mixed := by kernel_rfl
  f169 := Tryz.func22.trans (congrArg some (by kernel_rfl))
  t0 := Tryz.underlying0
  a0 := Tryz.isAgg0
  z0 := Tryz.sizeOf0
  v0 := Tryz.zeroValue0
  t3 := Tryz.underlying3
  a3 := Tryz.isAgg3
  z3 := Tryz.sizeOf3
  v3 := Tryz.zeroValue3
  t9 := Tryz.underlying9
  a9 := Tryz.isAgg9
  z9 := Tryz.sizeOf9
  v9 := Tryz.zeroValue9
  t37 := Tryz.underlying40
  a37 := Tryz.isAgg40
  z37 := Tryz.sizeOf40
  v37 := Tryz.zeroValue40
  t70 := Tryz.underlying39
  a70 := Tryz.isAgg39
  z70 := Tryz.sizeOf39
  v70 := Tryz.zeroValue39
  t72 := Tryz.underlying42
  a72 := Tryz.isAgg42
  z72 := Tryz.sizeOf42
  v72 := Tryz.zeroValue42
  t127 := Tryz.underlying75
  a127 := Tryz.isAgg75
  z127 := Tryz.sizeOf75
  v127 := Tryz.zeroValue75 }
theorem Tryz.Builder_Extra_169 : Builder.Extra Tryz.prog Tryz.lays169_ren := {
  sizeBuilder := by kernel_rfl
  liesBuilder := by kernel_rfl
  t5 := Tryz.underlying5
  a5 := Tryz.isAgg5
  z5 := Tryz.sizeOf5
  v5 := Tryz.zeroValue5
  infoByte := by kernel_rfl
  cellsByte := by kernel_rfl
  sizeByte := by kernel_rfl
  neB5 := by decide }
open Go.RowKit in
/-- (*strings.Builder).String: "String returns the accumulated string.": WHATEVER THE BUILDER HOLDS. (LAID: no walk: one application.) -/
theorem Tryz.Builder_String_any (B b : Nat) (l : List UInt8) (w : World) (h : Lib.IsBuilder 42 5 B b (Lib.byteCells l) w) (hBw : B ≤ w.heap.size) :
    Calls Tryz.prog 22 #[.pointer (some ⟨b, 0, none⟩)] w fun e w' => e = .returned (.string ⟨l.toArray⟩) ∧ Below B w w' := Any.Builder_String_any Tryz.lays169 Tryz.Builder_Extra_169 B b l w h hBw
def Tryz.lays133_ren : Go.Shelf.Ren := ⟨fun | 133 => 214 | 128 => 226 | n => n, fun | 51 => 90 | 3 => 3 | 4 => 4 | 46 => 132 | 5 => 5 | 9 => 9 | n => n, fun | n => n⟩
theorem Tryz.lays133 : Go.Proofs.Lays.n133 Tryz.prog Tryz.lays133_ren := {
  mixed := by kernel_rfl
  f128 := Tryz.func226.trans (congrArg some (by kernel_rfl))
  f133 := Tryz.func214.trans (congrArg some (by kernel_rfl))
  t3 := Tryz.underlying3
  a3 := Tryz.isAgg3
  z3 := Tryz.sizeOf3
  v3 := Tryz.zeroValue3
  t4 := Tryz.underlying4
  a4 := Tryz.isAgg4
  z4 := Tryz.sizeOf4
  v4 := Tryz.zeroValue4
  t5 := Tryz.underlying5
  a5 := Tryz.isAgg5
  z5 := Tryz.sizeOf5
  v5 := Tryz.zeroValue5
  t9 := Tryz.underlying9
  a9 := Tryz.isAgg9
  z9 := Tryz.sizeOf9
  v9 := Tryz.zeroValue9
  t46 := Tryz.underlying132
  a46 := Tryz.isAgg132
  z46 := Tryz.sizeOf132
  v46 := Tryz.zeroValue132
  t51 := Tryz.underlying90
  a51 := Tryz.isAgg90
  z51 := Tryz.sizeOf90
  v51 := Tryz.zeroValue90 }
/-- bits.LeadingZeros32: "LeadingZeros32 returns the number of leading zero bits in x; the result is 32 for x == 0.": IT RETURNS '32 - Lib.bitLen x'; the world is as it was. ITS CALLEE bits.Len32 IS MET BY ITS OWN CONTRACT OFF THE SHELF (lay that first): entered in place it sends the kernel out of memory. (LAID: no walk: one application.) -/
theorem Tryz.bits_LeadingZeros32 (x : Int) (w : World) (h0 : 0 ≤ x) (h1 : x ≤ 4294967295) :
    Calls Tryz.prog 214 #[.int .u32 x] w fun e w' => e = .returned (.int .i64 (32 - (Lib.bitLen x.toNat : Int))) ∧ w' = w := Any.bits_LeadingZeros32 Tryz.lays133 x w h0 h1
open Go.RowKit in
/-- (*strings.Builder).String: "String returns the accumulated string.": WHATEVER THE BUILDER HOLDS; THE FORM '_k': OVER 'Lib.IsBuilderF' (a builder that 'String()' may have read), AND WITH THE FRAME THAT REACHES ABOVE THE BUILDER: 'Lib.OthersKept': every block that is not b and is no row of uint8's stands as it stood: the iterator of a range among them. (LAID: no walk: one application.) -/
theorem Tryz.Builder_String_any_k (B b : Nat) (l : List UInt8) (w : World) (h : Lib.IsBuilderF 42 5 B b (Lib.byteCells l) w) (hBw : B ≤ w.heap.size) :
    Calls Tryz.prog 22 #[.pointer (some ⟨b, 0, none⟩)] w fun e w' => e = .returned (.string ⟨l.toArray⟩) ∧ (Lib.IsBuilderF 42 5 B b (Lib.byteCells l) w' ∧ Below B w w' ∧ Lib.OthersKept 5 (some b) w w') := Any.Builder_String_any_k Tryz.lays169 Tryz.Builder_Extra_169 B b l w h hBw
def Tryz.lays242_ren : Go.Shelf.Ren := ⟨fun | 242 => 70 | 278 => 128 | n => n, fun | 37 => 40 | 21 => 21 | 51 => 90 | 4 => 4 | 5 => 5 | 46 => 132 | n => n, fun | n => n⟩
theorem Tryz.lays242 : Go.Proofs.Lays.n242 Tryz.prog Tryz.lays242_ren := {
  mixed := by kernel_rfl
  f242 := Tryz.func70.trans (congrArg some (by kernel_rfl))
  f278 := Tryz.func128.trans (congrArg some (by kernel_rfl))
  t4 := Tryz.underlying4
  a4 := Tryz.isAgg4
  z4 := Tryz.sizeOf4
  v4 := Tryz.zeroValue4
  t5 := Tryz.underlying5
  a5 := Tryz.isAgg5
  z5 := Tryz.sizeOf5
  v5 := Tryz.zeroValue5
  t21 := Tryz.underlying21
  a21 := Tryz.isAgg21
  z21 := Tryz.sizeOf21
  v21 := Tryz.zeroValue21
  t37 := Tryz.underlying40
  a37 := Tryz.isAgg40
  z37 := Tryz.sizeOf40
  v37 := Tryz.zeroValue40
  t46 := Tryz.underlying132
  a46 := Tryz.isAgg132
  z46 := Tryz.sizeOf132
  v46 := Tryz.zeroValue132
  t51 := Tryz.underlying90
  a51 := Tryz.isAgg90
  z51 := Tryz.sizeOf90
  v51 := Tryz.zeroValue90 }
open Go.RowKit in
/-- unicode/utf8.AppendRune: "AppendRune appends the UTF-8 encoding of r to the end of p and returns the extended buffer. If the rune is out of range, it appends the encoding of RuneError.": ONTO A ROW OF BYTES THAT THE CALL OWNS (its head frozen or not): EVERY int32: 'Lib.runeCells r' goes in behind what the row holds; the world: one new block (the bytes as the call's variadic argument), then what 'append' does to the row. (LAID: no walk: one application.) -/
theorem Tryz.utf8_AppendRune_plain (B : Nat) (v : Value) (n : Nat) (xs : List Value) (r : Int) (hr0 : -2147483648 ≤ r) (hr1 : r ≤ 2147483647) (w : World) (hown : w.ownsRow B 5 1 v n xs) (hlen : n + 4 ≤ 140737488355328) (hBw : B ≤ w.heap.size) :
    Calls Tryz.prog 70 #[v, .int .i32 r] w fun e w' => ∃ v', e = .returned v' ∧ w'.ownsRow B 5 1 v' (n + (Lib.runeCells r).length) (xs ++ Lib.runeCells r) ∧ ∃ o, (w.alloc o).grownBy w' v.ownBlock := Any.utf8_AppendRune_plain Tryz.lays242 (by kernel_rfl) B v n xs r hr0 hr1 w hown hlen hBw
def Tryz.lays283_ren : Go.Shelf.Ren := ⟨fun | 283 => 184 | n => n, fun | 3 => 3 | 9 => 9 | 4 => 4 | n => n, fun | n => n⟩
theorem Tryz.lays283 : Go.Proofs.Lays.n283 Tryz.prog Tryz.lays283_ren := {
  mixed := by kernel_rfl
  f283 := Tryz.func184.trans (congrArg some (by kernel_rfl))
  t3 := Tryz.underlying3
  a3 := Tryz.isAgg3
  z3 := Tryz.sizeOf3
  v3 := Tryz.zeroValue3
  t4 := Tryz.underlying4
  a4 := Tryz.isAgg4
  z4 := Tryz.sizeOf4
  v4 := Tryz.zeroValue4
  t9 := Tryz.underlying9
  a9 := Tryz.isAgg9
  z9 := Tryz.sizeOf9
  v9 := Tryz.zeroValue9 }
open Go.Lib in
/-- internal/strconv.small: "small returns the string for an i with 0 <= i < nSmalls.": i's decimal numeral. The world is as it was. (LAID: no walk: one application.) -/
theorem Tryz.internal_strconv_small (i : Nat) (h : i < 100) (w : World) :
    Calls Tryz.prog 184 #[.int .i64 i] w fun e w' => e = .returned (.string ⟨(Lib.decDigits i).toArray⟩) ∧ w' = w := Any.internal_strconv_small Tryz.lays283 i h w
def Tryz.laysM284_ren : Go.Shelf.Ren := ⟨fun | 284 => 185 | 129 => 200 | 317 => 199 | 318 => 201 | n => n, fun | 53 => 107 | 3 => 3 | 212 => 167 | 0 => 0 | 4 => 4 | 46 => 132 | 5 => 5 | 9 => 9 | n => n, fun | 17 => 0 | n => n⟩
theorem Tryz.laysM284 : Go.Proofs.LaysM.n284 Tryz.prog Tryz.laysM284_ren := {
  mixed := by kernel_rfl
  f129 := Tryz.func200.trans (congrArg some (by kernel_rfl))
  f284 := Tryz.func185.trans (congrArg some (by kernel_rfl))
  f317 := Tryz.func199.trans (congrArg some (by kernel_rfl))
  f318 := Tryz.func201.trans (congrArg some (by kernel_rfl))
  t0 := Tryz.underlying0
  a0 := Tryz.isAgg0
  z0 := Tryz.sizeOf0
  v0 := Tryz.zeroValue0
  t3 := Tryz.underlying3
  a3 := Tryz.isAgg3
  z3 := Tryz.sizeOf3
  v3 := Tryz.zeroValue3
  t4 := Tryz.underlying4
  a4 := Tryz.isAgg4
  z4 := Tryz.sizeOf4
  v4 := Tryz.zeroValue4
  t5 := Tryz.underlying5
  a5 := Tryz.isAgg5
  z5 := Tryz.sizeOf5
  v5 := Tryz.zeroValue5
  t9 := Tryz.underlying9
  a9 := Tryz.isAgg9
  z9 := Tryz.sizeOf9
  v9 := Tryz.zeroValue9
  t46 := Tryz.underlying132
  a46 := Tryz.isAgg132
  z46 := Tryz.sizeOf132
  v46 := Tryz.zeroValue132
  t53 := Tryz.underlying107
  a53 := Tryz.isAgg107
  z53 := Tryz.sizeOf107
  v53 := Tryz.zeroValue107
  t212 := Tryz.underlying167
  a212 := Tryz.isAgg167
  z212 := Tryz.sizeOf167
  v212 := Tryz.zeroValue167
  g17 := by kernel_rfl
  i0 := by kernel_rfl
  i3 := by kernel_rfl
  i4 := by kernel_rfl
  i5 := by kernel_rfl
  i9 := by kernel_rfl
  i46 := by kernel_rfl
  i53 := by kernel_rfl
  i212 := by kernel_rfl
  m17 := by kernel_rfl }
open Go.Lib in
/-- internal/strconv.numDigits, at a d that is not 0: THE NUMBER OF d's DECIMAL DIGITS. The world is as it was. (LAID: no walk: one application.) -/
theorem Tryz.internal_strconv_numDigits (u : Nat) (h1 : 1 ≤ u) (h2 : u < 18446744073709551616) (w : World) (htab : Lib.TabIs Tryz.prog w "internal/strconv.uint64pow10" .u64 Lib.pow10Tab) :
    Calls Tryz.prog 185 #[.int .u64 u] w fun e w' => e = .returned (.int .i64 (Lib.nDigits u)) ∧ w' = w := Any.internal_strconv_numDigits Tryz.laysM284 u h1 h2 w htab
def Tryz.lays285_ren : Go.Shelf.Ren := ⟨fun | 285 => 186 | n => n, fun | 37 => 40 | 53 => 107 | 3 => 3 | 4 => 4 | 51 => 90 | 9 => 9 | 5 => 5 | 0 => 0 | n => n, fun | n => n⟩
theorem Tryz.lays285 : Go.Proofs.Lays.n285 Tryz.prog Tryz.lays285_ren := {
  mixed := by kernel_rfl
  f285 := Tryz.func186.trans (congrArg some (by kernel_rfl))
  t0 := Tryz.underlying0
  a0 := Tryz.isAgg0
  z0 := Tryz.sizeOf0
  v0 := Tryz.zeroValue0
  t3 := Tryz.underlying3
  a3 := Tryz.isAgg3
  z3 := Tryz.sizeOf3
  v3 := Tryz.zeroValue3
  t4 := Tryz.underlying4
  a4 := Tryz.isAgg4
  z4 := Tryz.sizeOf4
  v4 := Tryz.zeroValue4
  t5 := Tryz.underlying5
  a5 := Tryz.isAgg5
  z5 := Tryz.sizeOf5
  v5 := Tryz.zeroValue5
  t9 := Tryz.underlying9
  a9 := Tryz.isAgg9
  z9 := Tryz.sizeOf9
  v9 := Tryz.zeroValue9
  t37 := Tryz.underlying40
  a37 := Tryz.isAgg40
  z37 := Tryz.sizeOf40
  v37 := Tryz.zeroValue40
  t51 := Tryz.underlying90
  a51 := Tryz.isAgg90
  z51 := Tryz.sizeOf90
  v51 := Tryz.zeroValue90
  t53 := Tryz.underlying107
  a53 := Tryz.isAgg107
  z53 := Tryz.sizeOf107
  v53 := Tryz.zeroValue107 }
open Go.RowKit Go.Sort Go.Lib in
/-- internal/strconv.formatBase10: "formatBase10 formats the decimal representation of u into a. The caller is responsible for ensuring that a is big enough to hold u. If a is too big, leading zeros will be filled in as needed.": THE ROW HOLDS u's DIGITS ('FmtInv .. 0 ..': every place t holds 'dg u (len - 1 - t)'); all else is as it was but for the count of draws. (LAID: no walk: one application.) -/
theorem Tryz.internal_strconv_formatBase10 (blk off cap : Nat) (u : Nat) (d : Array UInt8) (w : World) (hH : Holds (fun (b : UInt8) => Value.int .u8 (b.toNat : Int)) w blk off d) (hu : u < 10 ^ d.size) (hu64 : u < 18446744073709551616) (hsz : d.size < 4611686018427387904) :
    Calls Tryz.prog 186 #[.slice (some ⟨blk, off, none⟩) d.size cap, .int .u64 u] w fun e w' =>
      e = .returned (.tuple #[]) ∧ ∃ (n v' : Nat) (dk : Array UInt8), w' = (putRow (fun (b : UInt8) => Value.int .u8 (b.toNat : Int)) w blk off dk).drewN n ∧ FmtInv d.size u 0 v' dk := Any.internal_strconv_formatBase10 Tryz.lays285 blk off cap u d w hH hu hu64 hsz
def Tryz.lays105_ren : Go.Shelf.Ren := ⟨fun | 105 => 124 | 212 => 160 | 99 => 55 | 165 => 161 | 166 => 36 | 170 => 162 | 169 => 22 | 263 => 188 | 264 => 189 | 206 => 89 | 240 => 65 | 241 => 190 | 276 => 119 | 277 => 204 | n => n, fun | 9 => 9 | 3 => 3 | 4 => 4 | 20 => 20 | 0 => 0 | 46 => 132 | 109 => 133 | 5 => 5 | 72 => 42 | 76 => 68 | 51 => 90 | 146 => 156 | 53 => 107 | 148 => 158 | 70 => 39 | 37 => 40 | 75 => 67 | 127 => 75 | 164 => 116 | 80 => 44 | n => n, fun | n => n⟩
theorem Tryz.lays105 : Go.Proofs.Lays.n105 Tryz.prog Tryz.lays105_ren := {
  mixed := by kernel_rfl
  f99 := Tryz.func55.trans (congrArg some (by kernel_rfl))
  f105 := Tryz.func124.trans (congrArg some (by kernel_rfl))
  f165 := Tryz.func161.trans (congrArg some (by kernel_rfl))
  f166 := Tryz.func36.trans (congrArg some (by kernel_rfl))
  f169 := Tryz.func22.trans (congrArg some (by kernel_rfl))
  f170 := Tryz.func162.trans (congrArg some (by kernel_rfl))
  f206 := Tryz.func89.trans (congrArg some (by kernel_rfl))
  f212 := Tryz.func160.trans (congrArg some (by kernel_rfl))
  f240 := Tryz.func65.trans (congrArg some (by kernel_rfl))
  f241 := Tryz.func190.trans (congrArg some (by kernel_rfl))
  f263 := Tryz.func188.trans (congrArg some (by kernel_rfl))
  f264 := Tryz.func189.trans (congrArg some (by kernel_rfl))
  f276 := Tryz.func119.trans (congrArg some (by kernel_rfl))
  f277 := Tryz.func204.trans (congrArg some (by kernel_rfl))
  t0 := Tryz.underlying0
  a0 := Tryz.isAgg0
  z0 := Tryz.sizeOf0
  v0 := Tryz.zeroValue0
  t3 := Tryz.underlying3
  a3 := Tryz.isAgg3
  z3 := Tryz.sizeOf3
  v3 := Tryz.zeroValue3
  t4 := Tryz.underlying4
  a4 := Tryz.isAgg4
  z4 := Tryz.sizeOf4
  v4 := Tryz.zeroValue4
  t5 := Tryz.underlying5
  a5 := Tryz.isAgg5
  z5 := Tryz.sizeOf5
  v5 := Tryz.zeroValue5
  t9 := Tryz.underlying9
  a9 := Tryz.isAgg9
  z9 := Tryz.sizeOf9
  v9 := Tryz.zeroValue9
  t20 := Tryz.underlying20
  a20 := Tryz.isAgg20
  z20 := Tryz.sizeOf20
  v20 := Tryz.zeroValue20
  t37 := Tryz.underlying40
  a37 := Tryz.isAgg40
  z37 := Tryz.sizeOf40
  v37 := Tryz.zeroValue40
  t46 := Tryz.underlying132
  a46 := Tryz.isAgg132
  z46 := Tryz.sizeOf132
  v46 := Tryz.zeroValue132
  t51 := Tryz.underlying90
  a51 := Tryz.isAgg90
  z51 := Tryz.sizeOf90
  v51 := Tryz.zeroValue90
  t53 := Tryz.underlying107
  a53 := Tryz.isAgg107
  z53 := Tryz.sizeOf107
  v53 := Tryz.zeroValue107
  t70 := Tryz.underlying39
  a70 := Tryz.isAgg39
  z70 := Tryz.sizeOf39
  v70 := Tryz.zeroValue39
  t72 := Tryz.underlying42
  a72 := Tryz.isAgg42
  z72 := Tryz.sizeOf42
  v72 := Tryz.zeroValue42
  t75 := Tryz.underlying67
  a75 := Tryz.isAgg67
  z75 := Tryz.sizeOf67
  v75 := Tryz.zeroValue67
  t76 := Tryz.underlying68
  a76 := Tryz.isAgg68
  z76 := Tryz.sizeOf68
  v76 := Tryz.zeroValue68
  t109 := Tryz.underlying133
  a109 := Tryz.isAgg133
  z109 := Tryz.sizeOf133
  v109 := Tryz.zeroValue133
  t127 := Tryz.underlying75
  a127 := Tryz.isAgg75
  z127 := Tryz.sizeOf75
  v127 := Tryz.zeroValue75
  t146 := Tryz.underlying156
  a146 := Tryz.isAgg156
  z146 := Tryz.sizeOf156
  v146 := Tryz.zeroValue156
  t148 := Tryz.underlying158
  a148 := Tryz.isAgg158
  z148 := Tryz.sizeOf158
  v148 := Tryz.zeroValue158
  t164 := Tryz.underlying116
  a164 := Tryz.isAgg116
  z164 := Tryz.sizeOf116
  v164 := Tryz.zeroValue116 }
theorem Tryz.Builder_Extra_105 : Builder.Extra Tryz.prog Tryz.lays105_ren := {
  sizeBuilder := by kernel_rfl
  liesBuilder := by kernel_rfl
  t5 := Tryz.underlying5
  a5 := Tryz.isAgg5
  z5 := Tryz.sizeOf5
  v5 := Tryz.zeroValue5
  infoByte := by kernel_rfl
  cellsByte := by kernel_rfl
  sizeByte := by kernel_rfl
  neB5 := by decide }
open Go.RowKit Go.Lib in
/-- **strings.Repeat: count ≥ 0, the result within one allocation: count copies of s.** (LAID: no walk: one application.) -/
theorem Tryz.strings_Repeat (s : ByteArray) (c : Nat) (w : World) (hc : c ≤ 9223372036854775807) (hlen : s.size * c ≤ 140737488355328) :
    Calls Tryz.prog 124 #[.string s, .int .i64 c] w fun e w' => e = .returned (.string ⟨(Lib.repeatL s.data.toList c).toArray⟩) ∧ Below w.heap.size w w' := Any.strings_Repeat Tryz.lays105 Tryz.Builder_Extra_105 s c w hc hlen
end Go.Proofs

/-
  What strconv.FormatUint computes at base 10 (after the library's proof of FormatInt, turned to FormatUint).
-/
namespace Go.Proofs.YtceplkpjnebnfaaGreatDoor
open Go.RowKit Go.Sort Go.Lib Go.Shelf
set_option maxHeartbeats 6400000
set_option maxRecDepth 100000
set_option linter.unusedVariables false

theorem holds_zero0 (w : World) (T : TypeId) (nd : Nat) (hs : nd ≤ 24) : Holds (fun (b : UInt8) => Value.int .u8 (b.toNat : Int)) (w.alloc (.cells zeros24 T)) w.heap.size 0 (Array.replicate nd (0 : UInt8)) := fun j hj => by
  have hj' : j < nd := by simpa using hj
  refine ⟨?_, World.frozen?_alloc_new _ _ _ _⟩
  rw [World.cell?_alloc_new, zeros24_at _ (by omega), getElem!_pos _ j hj]
  simp
theorem fin0 (w : World) (o : Obj) (dk : Array UInt8) (k : Nat) : Below w.heap.size w ((putRow (fun (b : UInt8) => Value.int .u8 (b.toNat : Int)) (w.alloc o) w.heap.size 0 dk).drewN k) := by
  rw [alloc_eq_grow]
  obtain ⟨os', _, e⟩ := putRow_grow_new (fun (b : UInt8) => Value.int .u8 (b.toNat : Int)) w #[o] w.heap.size 0 dk (Nat.le_refl _)
  rw [e]
  exact ⟨rfl, rfl, rfl, by show w.heap.size ≤ (grow w os').heap.size; simp, fun g hg => heap_grow_old w os' hg⟩
theorem innerFormatUint_any (u : Nat) (w : World) (hu64 : u < 18446744073709551616) (htab : Lib.TabIs Tryz.prog w "internal/strconv.uint64pow10" .u64 Lib.pow10Tab) :
    Calls Tryz.prog 159 #[.int .u64 (u : Int), .int .i64 10] w fun e w' => e = .returned (.string ⟨(Lib.decDigits u).toArray⟩) ∧ Below w.heap.size w w' := by
  by_cases hs : u < 100
  · go_enter Tryz.func159, Tryz.ntmps159
    go_wp2_with (go_at_call 184; refine (Tryz.internal_strconv_small u hs _).mono ?_; rintro e w' ⟨rfl, rfl⟩)
    go_ret
    exact ⟨rfl, Below.refl _ _⟩
  · have hu1 : 1 ≤ u := by omega
    have hnd20 : Lib.nDigits u ≤ 20 := by have := Lib.numDigits_eq u hu1 hu64; split at this <;> omega
    have hH0 := holds_zero0 w 151 (Lib.nDigits u) (by omega)
    have hfmt := Tryz.internal_strconv_formatBase10 w.heap.size 0 24 u (Array.replicate (Lib.nDigits u) 0) (w.alloc (.cells Lib.zeros24 151)) hH0 (by rw [Array.size_replicate]; exact Lib.lt_pow_nDigits u) hu64 (by rw [Array.size_replicate]; omega)
    rw [Array.size_replicate] at hfmt
    have HH0 := Lib.hid hH0
    clear hH0
    have hal : Program.arrayLen Tryz.prog 151 = 24 := by simp [Program.arrayLen, Tryz.underlying151]
    have hb3 : Lib.nDigits u ≤ 24 := by omega
    have hsl1 : ∀ W, (Instr.sliceAt 151 (.pointer (some ⟨w.heap.size, 0, none⟩)) none (some (.int .i64 (Lib.nDigits u : Int))) none).run Tryz.prog W = .ok (.slice (some ⟨w.heap.size, 0, none⟩) (Lib.nDigits u) 24) W := fun W => by
      rw [run_sliceAt_array_h W 151 ⟨w.heap.size, 0, none⟩ (by simp [Program.arrayLen, Program.elem, Tryz.underlying151]) .i64 (Lib.nDigits u : Int) (by omega) (by rw [hal]; omega)]
      go_simp
    clear hal
    go_enter Tryz.func159, Tryz.ntmps159
    go_wp2_with (first
      | (go_at_call 185; refine (Tryz.internal_strconv_numDigits u hu1 hu64 _ (Lib.tabIs_alloc htab _)).mono ?_; rintro e w' ⟨rfl, rfl⟩))
    refine hfmt.mono ?_
    rintro e w' ⟨rfl, k, v', dk, rfl, hF⟩
    have hcv : (convert 40 9 (.slice (some ⟨w.heap.size, 0, none⟩) (Lib.nDigits u) 24)).run Tryz.prog ((putRow (fun (b : UInt8) => Value.int .u8 (b.toNat : Int)) (w.alloc (.cells Lib.zeros24 151)) w.heap.size 0 dk).drewN k) = .ok (.string ⟨(Lib.decDigits u).toArray⟩) ((putRow (fun (b : UInt8) => Value.int .u8 (b.toNat : Int)) (w.alloc (.cells Lib.zeros24 151)) w.heap.size 0 dk).drewN k) := by
      have h := run_convert_bytes_back (P := Tryz.prog) ((putRow (fun (b : UInt8) => Value.int .u8 (b.toNat : Int)) (w.alloc (.cells Lib.zeros24 151)) w.heap.size 0 dk).drewN k) 40 9 5 ⟨w.heap.size, 0, none⟩ 24 (Lib.decDigits u) Tryz.underlying40 Tryz.underlying5 Tryz.underlying9 (fun j hj => by
        rw [Lib.row_is_numeral hF j hj, Lib.add_plain, World.cell?_drewN]
        exact cell?_putRow (fun (b : UInt8) => Value.int .u8 (b.toNat : Int)) _ w.heap.size 0 _ dk HH0.out (by rw [hF.size, Array.size_replicate]) j (by rw [hF.size]; rw [Lib.decDigits_length] at hj; exact hj))
      rw [Lib.decDigits_length] at h
      exact h
    go_wp2_with fail
    go_ret
    exact ⟨rfl, fin0 _ _ _ _⟩
theorem formatUint_any (u : Nat) (w : World) (hu64 : u < 18446744073709551616) (htab : Lib.TabIs Tryz.prog w "internal/strconv.uint64pow10" .u64 Lib.pow10Tab) :
    Calls Tryz.prog 123 #[.int .u64 (u : Int), .int .i64 10] w fun e w' => e = .returned (.string ⟨(Lib.decDigits u).toArray⟩) ∧ Below w.heap.size w w' := by
  go_enter Tryz.func123, Tryz.ntmps123
  go_wp2_with (go_at_call 159; refine (innerFormatUint_any u w hu64 htab).mono ?_; rintro e w' ⟨rfl, hb⟩)
  go_ret
  exact ⟨rfl, hb⟩
end Go.Proofs.YtceplkpjnebnfaaGreatDoor

/-
  What scrimref02.Parse computes.
-/
namespace Go.Proofs.YtceplkpjnebnfaaGreatDoor
open Go.RowKit
set_option maxHeartbeats 1000000
set_option maxRecDepth 100000
set_option linter.unusedVariables false

/-- What a text's reading tells: the number's limbs, and that it is one; or none. -/
def NatTold (s : List UInt8) (w : World) (e : Ending) (w' : World) : Prop := Below w.heap.size w w' ∧ ∃ (v : Value) (ok : Bool) (n : Nat), e = .returned (.tuple #[v, .bool ok]) ∧ IsRes w' v (Nt.digs n) ∧ ((ok = true ∧ Ten.Valid s ∧ n = Ten.numOf s) ∨ (ok = false ∧ ¬ Ten.Valid s ∧ n = 0))
theorem NatTold.no {s : List UInt8} {w w' : World} (hb : Below w.heap.size w w') (h : ¬ Ten.Valid s) : NatTold s w (.returned (.tuple #[.slice none 0 0, .bool false])) w' := ⟨hb, _, false, 0, rfl, by rw [Nt.digs_zero]; exact IsRes.none_ _, .inr ⟨rfl, h, rfl⟩⟩
/-- The numeral, read up to a place. -/
def NumAt (s : List UInt8) (k n : Nat) : Prop := n = Ten.numOf (s.take k) ∧ ∀ j (hj : j < s.length), j < k → Ten.isDig s[j]
theorem NumAt.start (s : List UInt8) : NumAt s 0 0 := ⟨rfl, fun j _ h => absurd h (by omega)⟩
theorem NumAt.step {s : List UInt8} {k n : Nat} (h : NumAt s k n) (hk : k < s.length) (hd : Ten.isDig s[k]) : NumAt s (k + 1) (n * 10 + (s[k].toNat - 48)) := by
  refine ⟨?_, fun j hj hjk => ?_⟩
  · rw [List.take_succ_eq_append_getElem hk, Ten.numOf_snoc, ← h.1]; omega
  · by_cases e : j = k
    · subst e; exact hd
    · exact h.2 j hj (by omega)
theorem NumAt.done {s : List UInt8} {n : Nat} (h : NumAt s s.length n) (h0 : s ≠ []) (h1 : 1 < s.length → s.head? ≠ some 48) : Ten.Valid s ∧ n = Ten.numOf s := by
  refine ⟨⟨h0, h1, fun b hb => ?_⟩, by rw [h.1, List.take_length]⟩
  obtain ⟨j, hj, rfl⟩ := List.mem_iff_getElem.1 hb
  exact h.2 j hj hj
end Go.Proofs.YtceplkpjnebnfaaGreatDoor

/-
  What nat.Parse computes.
-/
namespace Go.Proofs.YtceplkpjnebnfaaGreatDoor
open Go.RowKit
set_option maxHeartbeats 1000000
set_option maxRecDepth 100000
set_option linter.unusedVariables false

/-- A part of the numeral, read on from a place. -/
def PartAt (s : List UInt8) (n at0 k p sc : Nat) : Prop := sc = 10 ^ (k - at0) ∧ p < sc ∧ Ten.numOf (s.take k) = n * sc + p
theorem PartAt.start {s : List UInt8} {n at0 : Nat} (h : n = Ten.numOf (s.take at0)) : PartAt s n at0 at0 0 1 := ⟨by rw [Nat.sub_self], by omega, by rw [← h, Nat.mul_one, Nat.add_zero]⟩
theorem PartAt.step {s : List UInt8} {n at0 k p sc : Nat} (h : PartAt s n at0 k p sc) (h1 : at0 ≤ k) (hk : k < s.length) (hd : Ten.isDig s[k]) : PartAt s n at0 (k + 1) (10 * p + (s[k].toNat - 48)) (sc * 10) := by
  obtain ⟨e1, e2, e3⟩ := h
  have := hd.2
  refine ⟨by rw [e1, show k + 1 - at0 = (k - at0) + 1 by omega, Nat.pow_succ], by omega, ?_⟩
  rw [List.take_succ_eq_append_getElem hk, Ten.numOf_snoc, e3]
  rw [show n * (sc * 10) = n * sc * 10 from (Nat.mul_assoc _ _ _).symm]
  generalize n * sc = q
  omega
end Go.Proofs.YtceplkpjnebnfaaGreatDoor

/-
  digits.number and scrimref05.value: the number of digits that may begin with noughts.
-/
namespace Go.Proofs.YtceplkpjnebnfaaGreatDoor
open Go.RowKit
set_option maxHeartbeats 1000000
set_option maxRecDepth 100000
set_option linter.unusedVariables false

/-- How many noughts ahead have been left out. -/
def SkipAt (s : List UInt8) (k : Nat) : Prop := ∀ i (hi : i < s.length), i < k → s[i] = 48
theorem SkipAt.step {s : List UInt8} {k : Nat} (h : SkipAt s k) (hk : k < s.length) (he : s[k] = 48) : SkipAt s (k + 1) := fun i hi hik => by
  by_cases e : i = k
  · subst e; exact he
  · exact h i hi (by omega)
theorem SkipAt.done {s : List UInt8} {k : Nat} (h : SkipAt s k) (hd : ∀ b ∈ s, Ten.isDig b) (hk : k < s.length) (hn : k + 1 < s.length → s[k] ≠ 48) : Ten.Valid (s.drop k) ∧ Ten.numOf (s.drop k) = Ten.numOf s := ⟨Dg.valid_drop hd hk hn, Dg.numOf_drop h (by omega)⟩

end Go.Proofs.YtceplkpjnebnfaaGreatDoor

/-
  What nat.long computes: a number divided by one of two limbs or more.
-/
namespace Go.Proofs.YtceplkpjnebnfaaGreatDoor
open Go.RowKit
set_option maxHeartbeats 1000000
set_option maxRecDepth 100000
set_option linter.unusedVariables false

theorem U_append (a b : List Nat) : U (a ++ b) = U a ++ U b := by simp [U]

/-- takeOff at a window of limbs. -/
theorem takeOff_at (G c c' T j n : Nat) (A' : Option Addr) (P a Q d : List Nat) (w : World) (hblk : Blk w G 90 (U (P ++ (a ++ Q)))) (hP : P.length = j) (hy : Lies w G A' (U d)) (ha : Nt.Ok a) (hd : Nt.Ok d) (hla : a.length = n + 1) (hld : d.length = n) (hc : n + 1 ≤ c) (hc' : n ≤ c') (hm : c ≤ 9223372036854775807) (hm' : c' ≤ 9223372036854775807) (hT : T < 4294967296) (hs : n ≤ 1000000) :
    Calls Tryz.prog 217 #[.slice (some ⟨G, j, none⟩) (n + 1) c, .slice A' n c', .int .u64 (T : Int)] w fun e w' => ∃ (win : List Nat) (b : Nat), e = .returned (.bool (decide (b = 1))) ∧ b ≤ 1 ∧ Blk w' G 90 (U (P ++ (win ++ Q))) ∧ Hid (win.length = n + 1 ∧ Nt.Ok win ∧ Nt.val win + T * Nt.val d = Nt.val a + b * 4294967296 ^ (n + 1)) ∧ w.grownBy w' (some G) := by
  subst hld
  subst hP
  rw [U_append, U_append] at hblk
  have h := takeOff_any G c c' T A' (U P) (U Q) a d w hblk hy ha hd hla hc hc' hm hm' hT hs
  rw [U_len] at h
  refine h.mono ?_
  rintro e w' ⟨win, b, he, hb, hblk', H, hg⟩
  refine ⟨win, b, he, hb, by rw [U_append, U_append]; exact hblk', Lib.hid ⟨by rw [H.out.1, hla], H.out.2.1, H.out.2.2⟩, hg⟩
theorem putBack_at (G c c' j n : Nat) (A' : Option Addr) (P a Q d : List Nat) (w : World) (hblk : Blk w G 90 (U (P ++ (a ++ Q)))) (hP : P.length = j) (hy : Lies w G A' (U d)) (ha : Nt.Ok a) (hd : Nt.Ok d) (hla : a.length = n + 1) (hld : d.length = n) (hc : n + 1 ≤ c) (hc' : n ≤ c') (hm : c ≤ 9223372036854775807) (hm' : c' ≤ 9223372036854775807) (hs : n ≤ 1000000) :
    Calls Tryz.prog 218 #[.slice (some ⟨G, j, none⟩) (n + 1) c, .slice A' n c'] w fun e w' => ∃ (win : List Nat) (b : Nat), e = .returned (.tuple #[]) ∧ Blk w' G 90 (U (P ++ (win ++ Q))) ∧ Hid (win.length = n + 1 ∧ Nt.Ok win ∧ Nt.val win + b * 4294967296 ^ (n + 1) = Nt.val a + Nt.val d) ∧ w.grownBy w' (some G) := by
  subst hld
  subst hP
  rw [U_append, U_append] at hblk
  have h := putBack_any G c c' A' (U P) (U Q) a d w hblk hy ha hd hla hc hc' hm hm' hs
  rw [U_len] at h
  refine h.mono ?_
  rintro e w' ⟨win, b, he, hblk', H, hg⟩
  refine ⟨win, b, he, by rw [U_append, U_append]; exact hblk', Lib.hid ⟨by rw [H.out.1, hla], H.out.2.1, H.out.2.2⟩, hg⟩
/-- estimate at a window of limbs. -/
theorem estimate_at (G c c' j n : Nat) (A' : Option Addr) (P a Q d : List Nat) (w : World) (hblk : Blk w G 90 (U (P ++ (a ++ Q)))) (hP : P.length = j) (hy : Lies w G A' (U d)) (ha : Nt.Ok a) (hd : Nt.Ok d) (hla : a.length = n + 1) (hld : d.length = n) (hn : 2 ≤ n) (hs : n ≤ 1000000)
    (h31 : ∀ h : n - 1 < d.length, 2147483648 ≤ d[n - 1]) (hlt : Nt.val a < 4294967296 * Nt.val d) (hc : n + 1 ≤ c) (hc' : n ≤ c') :
    Calls Tryz.prog 216 #[.slice (some ⟨G, j, none⟩) (n + 1) c, .slice A' n c'] w fun e w' => ∃ g : Nat, e = .returned (.int .u64 (g : Int)) ∧ Hid (Nt.val a / Nt.val d ≤ g ∧ g ≤ Nt.val a / Nt.val d + 1) ∧ g < 4294967296 ∧ ∃ k, w' = w.drewN k := by
  have hg := hblk.lt
  refine estimate_any (some ⟨G, j, none⟩) A' c c' w.heap.size n a d w ?_ (hy.more (by omega)) ha hd hla hld hn hs h31 hlt hc hc'
  refine .inr ⟨G, j, rfl, hg, fun i v hv => ?_⟩
  rw [U_append, U_append] at hblk
  refine hblk.cell ?_
  rw [List.getElem?_append_right (by rw [U_len]; omega), U_len, hP, Nat.add_sub_cancel_left, List.getElem?_append_left]
  · exact hv
  · rcases Nat.lt_or_ge i (U a).length with h | h
    · exact h
    · rw [List.getElem?_eq_none h] at hv; cases hv
end Go.Proofs.YtceplkpjnebnfaaGreatDoor

/-
  nat.long, walked.
-/
namespace Go.Proofs.YtceplkpjnebnfaaGreatDoor
open Go.RowKit
set_option maxHeartbeats 1000000
set_option maxRecDepth 100000
set_option linter.unusedVariables false

/-- What the round of nat.long's loop computes, in plain words. -/
theorem long_round {X D n k g b : Nat} {cur quo win : List Nat} (h : Nt.LongAt X D n cur quo (k + 1)) (hk : k < quo.length) (hD : 0 < D)
    (hg : Nt.val ((cur.drop k).take (n + 1)) / D ≤ g) (hg2 : g ≤ Nt.val ((cur.drop k).take (n + 1)) / D + 1) (hg3 : g < 4294967296)
    (hwl : win.length = n + 1) (hwo : Nt.Ok win) (e : Nt.val win + g * D = Nt.val ((cur.drop k).take (n + 1)) + b * 4294967296 ^ (n + 1)) (hb : b ≤ 1) :
    (b = 0 → Nt.LongAt X D n (cur.take k ++ (win ++ cur.drop (k + (n + 1)))) (quo.set k g) k) ∧
    (b = 1 → 1 ≤ g ∧ ∀ (win2 : List Nat) (e' : Nat), win2.length = n + 1 → Nt.Ok win2 → Nt.val win2 + e' * 4294967296 ^ (n + 1) = Nt.val win + D → Nt.LongAt X D n (cur.take k ++ (win2 ++ cur.drop (k + (n + 1)))) (quo.set k (g - 1)) k) := by
  obtain ⟨w1, w2, w3, w4, w5, w6⟩ := h.window hk
  have hR := Nt.val_lt w2
  rw [w1] at hR
  have hV := Nt.val_lt hwo
  rw [hwl] at hV
  have hDp : D < 4294967296 ^ (n + 1) := by
    have := h.hi
    rw [Nat.pow_succ]
    omega
  obtain ⟨r0, r1⟩ := Nt.round_ok hg hg2 hD hR hV e hb hDp
  refine ⟨fun h0 => ?_, fun h1 => ?_⟩
  · obtain ⟨_, a2, a3⟩ := r0 h0
    exact h.step hk hwl hwo hg3 a2 a3
  · obtain ⟨a1, a2⟩ := r1 h1
    refine ⟨by rw [a1]; exact Nat.le_add_left _ _, fun win2 e' l2 o2 e2 => ?_⟩
    have hW := Nt.val_lt o2
    rw [l2] at hW
    obtain ⟨c1, c2⟩ := a2 _ e' hW e2
    exact h.step hk l2 o2 (by omega) c1 c2

theorem long_any : LongSaid := by
  intro A A' c c' B x y w hx hy hB hc hc' hm hm' hlx hly hyx
  have hy0 : y ≠ 0 := by
    intro h
    rw [h, Nt.digs_zero] at hly
    simp at hly
  obtain ⟨n, hnn⟩ : ∃ n, n = (Nt.digs y).length := ⟨_, rfl⟩
  obtain ⟨m, hmm⟩ : ∃ m, m = (Nt.digs x).length := ⟨_, rfl⟩
  have hnm : n ≤ m := by rw [hnn, hmm]; exact Nt.digs_len_le_of hyx
  rw [← hnn] at hc' hly ⊢
  rw [← hmm] at hc hlx ⊢
  obtain ⟨b2, o2, rfl, hb2, htop⟩ := hy.limb (k := n - 1) (by omega)
  have htne : (Nt.digs y)[n - 1]'(by omega) ≠ 0 := by
    have h := Nt.top_digs y (by intro h; rw [h] at hnn; simp at hnn; omega)
    rw [List.getLast_eq_getElem] at h
    simpa [← hnn] using h
  have htb := Nt.ok_get (Nt.ok_digs y) (i := n - 1) (by omega)
  obtain ⟨t, htt⟩ : ∃ t, t = (Nt.digs y)[n - 1]'(by omega) := ⟨_, rfl⟩
  rw [← htt] at htop htne htb
  obtain ⟨hL, hL1, hlo, hhi⟩ := Nt.shift_of htne htb
  obtain ⟨s, hss⟩ : ∃ s, s = 32 - Lib.bitLen t := ⟨_, rfl⟩
  rw [← hss] at hlo hhi
  have hs32 : s < 32 := by omega
  have LZ : Hid (∀ w, Calls Tryz.prog 214 #[.int .u32 (t : Int)] w fun e w' => e = .returned (.int .i64 (s : Int)) ∧ w = w') := Lib.hid (fun w => (Tryz.bits_LeadingZeros32 (t : Int) w (by omega) (by omega)).mono (by
    rintro e w' ⟨rfl, rfl⟩
    refine ⟨ret_int ?_, rfl⟩
    rw [Int.toNat_natCast, hss]; omega))
  have UB := Lib.hid (fun w' (hw : Below B w w') (hB' : B ≤ w'.heap.size) => up_any (some ⟨b2, o2, none⟩) c' B s (Nt.digs y) w' (hy.below hw) hB' (Nt.ok_digs y) (by omega) hm' (by omega) hs32)
  have UA := Lib.hid (fun w' (hw : Below B w w') (hB' : B ≤ w'.heap.size) => up_any A c B s (Nt.digs x) w' (hx.below hw) hB' (Nt.ok_digs x) (by omega) hm (by omega) hs32)
  rw [Nt.val_digs, ← hnn] at UB
  rw [Nt.val_digs, ← hmm] at UA
  have SC : Hid (∀ cur : List Nat, Nt.Ok cur → cur.length = n + 1 → Nt.val cur = y * 2 ^ s → y * 2 ^ s < 4294967296 ^ n ∧ Nt.val (cur.take n) = y * 2 ^ s ∧ Nt.Ok (cur.take n) ∧ (cur.take n).length = n ∧ ∀ h : n - 1 < (cur.take n).length, 2147483648 ≤ (cur.take n)[n - 1]) := Lib.hid (by
    obtain ⟨q, rfl⟩ : ∃ q, n = q + 1 := ⟨n - 1, by omega⟩
    intro cur ok hl hv
    exact Nt.div_scaled (y := y) (s := s) (m := q) (t := t) hnn.symm (by simpa using htt) (by omega) hlo hhi ok hl hv)
  have hxm : x < 4294967296 ^ m := by have := Nt.val_lt (Nt.ok_digs x); rwa [Nt.val_digs, ← hmm] at this
  have hyn : 4294967296 ^ (n - 1) ≤ y := by have := Nt.digs_ge hy0; rwa [← hnn] at this
  have ST : Hid (∀ cur : List Nat, Nt.Ok cur → Nt.val cur = x * 2 ^ s → cur.length = m + 1 → y * 2 ^ s < 4294967296 ^ n → Nt.LongAt (x * 2 ^ s) (y * 2 ^ s) n cur (List.replicate (m - n + 1) 0) (m - n + 1)) :=
    Lib.hid (fun cur ok hv hl hD => Nt.LongAt.start ok hv hl hnm (by omega) hxm hyn hD)
  have hD0 : Hid (0 < y * 2 ^ s) := Lib.hid (Nat.mul_pos (by omega) (Nat.two_pow_pos s))
  have HY0 : 0 < y := by omega
  obtain ⟨i0, hi, hz0, hz1, hz2⟩ := info_parts u32_info
  clear hx hy hnn hmm htt hss hlo hhi hL hL1 hxm hyn hy0
  go_enter Tryz.func198, Tryz.ntmps198
  go_wp2_with fail
  refine (LZ.out _).mono ?_
  rintro e w' ⟨rfl, rfl⟩
  go_wp2_with fail
  refine (UB.out w (Below.refl _ _) hB).mono ?_
  rintro e w1 ⟨cd, rfl, hblkd, HD, hb1⟩
  have hb1B : Below B w w1 := hb1.mono hB
  have hsz1 := hb1.size
  have hlt1 := hblkd.lt
  go_wp2_with fail
  refine (UA.out w1 hb1B (by omega)).mono ?_
  rintro e w2 ⟨cr, rfl, hblkr, HR, hb2'⟩
  have hsz2 := hb2'.size
  have hlt2 := hblkr.lt
  have hb02 : Below w.heap.size w w2 := hb1.trans (hb2'.mono hsz1)
  have hblkd2 := hblkd.keep hb2' hlt1
  clear hblkd hb2'
  go_wp2_with (at_make; refine wpList_make_blk _ rfl _ _ 22 rfl 90 i0 (.int .u32 0) Tryz.underlying22 hi hz0 hz1 rfl .i64 .i64 _ _ (m - n + 1) (m - n + 1) rfl rfl (by omega) (by omega) (Nat.le_refl _) (by rw [hz2]; omega) (by omega) w.heap.size w hb02 (by omega) ?_; intro w3 hblkq hb03 hb23 hlt3)
  have hblkr3 := hblkr.keep hb23 hlt2
  have hblkd3 := hblkd2.keep hb23 (by omega)
  have hblkq3 : Blk w3 w2.heap.size 90 (U (List.replicate (m - n + 1) 0)) := by simpa [U] using hblkq
  clear hblkr hblkd2 hblkq hb23
  obtain ⟨hDn, hvd, hod, hld, h31⟩ := SC.out cd HD.out.1 HD.out.2.1 HD.out.2.2
  have hS0 := Lib.hid (ST.out cr HR.out.1 HR.out.2.2 HR.out.2.1 hDn)
  have HHD := Lib.hid (And.intro hvd (And.intro hod (And.intro hld h31)))
  have HCD := Lib.hid HD.out.2.1
  clear HD HR SC ST UA UB LZ hDn hvd hod hld h31
  go_loopw [11, 12] (fun i gv wr => ∃ (k : Nat) (cur quo : List Nat), k ≤ m - n + 1 ∧ i = .int .i64 ((k : Int) - 1) ∧ Blk wr w1.heap.size 90 (U cur) ∧ Blk wr w2.heap.size 90 (U quo) ∧ Blk wr w.heap.size 90 (U cd) ∧ Below w.heap.size w wr ∧ Hid (quo.length = m - n + 1 ∧ Nt.LongAt (x * 2 ^ s) (y * 2 ^ s) n cur quo k)) (fun i _ _ => (intOf i + 1).toNat)
  case atStart => exact ⟨m - n + 1, cr, _, Nat.le_refl _, congrArg (Value.int .i64) (by omega), hblkr3, hblkq3, hblkd3, hb03, Lib.hid ⟨by simp, hS0.out⟩⟩
  case round =>
    clear hblkr3 hblkq3 hblkd3 hb03 hS0
    obtain ⟨k, cur, quo, hk, rfl, hbr, hbq, hbd, hbel, H⟩ := hrel
    rcases k with _ | k
    · obtain ⟨hql, HL⟩ := H.out
      obtain ⟨hdq, hdr⟩ := HL.done HY0
      have hcl : cur.length = m + 1 := by have := HL.len; rw [hql] at this; omega
      have hltq := hbq.lt
      have TR : Hid (∀ wx : World, Blk wx w2.heap.size 90 (U quo) → Calls Tryz.prog 122 #[.slice (some ⟨w2.heap.size, 0, none⟩) (m - n + 1) (m - n + 1)] wx fun e w' => e = .returned (.slice (some ⟨w2.heap.size, 0, none⟩) (Nt.digs (x / y)).length (Nt.digs (x / y)).length) ∧ wx = w') := Lib.hid (fun wx hbx => by
        have h := trim_any (some ⟨w2.heap.size, 0, none⟩) (m - n + 1) wx.heap.size quo wx hbx.lies HL.okq (by omega) (by omega)
        rw [hql, hdq] at h
        exact h)
      have hlr : Lies wr wr.heap.size (some ⟨w1.heap.size, 0, none⟩) (U (cur.take n)) := by rw [← U_take]; exact hbr.lies.take n
      have DN := down_any (some ⟨w1.heap.size, 0, none⟩) (m + 1) wr.heap.size s (cur.take n) wr.drew hlr (Nat.le_refl _) (Nt.ok_take HL.ok n) (by rw [List.length_take]; omega) (by omega) (by rw [List.length_take]; omega) hs32
      rw [hdr, List.length_take, hcl, Nat.min_eq_left (show n ≤ m + 1 by omega)] at DN
      have DNH := Lib.hid DN
      have HQI : Hid (∀ wx : World, Blk wx w2.heap.size 90 (U quo) → IsRes wx (.slice (some ⟨w2.heap.size, 0, none⟩) (Nt.digs (x / y)).length (Nt.digs (x / y)).length) (Nt.digs (x / y))) := Lib.hid (fun wx hbx => by
        have h := hbx.lies.digs HL.okq
        have h2 := Nt.digs_len_le HL.okq
        rw [hdq] at h h2
        rw [hql] at h2
        exact ⟨_, _, rfl, Nat.le_refl _, by omega, (fun h => by cases h), h⟩)
      have HBQ := Lib.hid hbq
      clear hql HL hdq hdr hcl hlr DN H hbr hbd hbq
      have hn1 : n ≤ m + 1 := by omega
      go_wp2_with fail
      go_region_with (first
        | (go_at_call 122; refine (TR.out _ (by first | exact HBQ.out | exact HBQ5.out)).mono ?_; rintro e w' ⟨rfl, rfl⟩)
        | (go_at_call 219; refine DNH.out.mono ?_; rintro e w5 ⟨vd, rfl, hres5, hb5⟩; have hbel5 : Below wr.heap.size wr w5 := ⟨hb5.os, hb5.tape, hb5.output, hb5.size, hb5.block⟩; clear hb5; have HBQ5 := Lib.hid (HBQ.out.keep hbel5 hltq)))
      all_goals
        go_wp2_with fail
        go_ret2
        exact ⟨_, _, rfl, HQI.out _ HBQ5.out, hres5, hbel.trans (hbel5.mono hbel.size)⟩
    · have hk1 : ((k + 1 : Nat) : Int) - 1 = (k : Int) := by omega
      rw [hk1]
      clear hk1
      have hkq : k < quo.length := by rw [H.out.1]; omega
      obtain ⟨v1, v2, v3, v4, v5, v6⟩ := H.out.2.window hkq
      have hcl : cur.length = m + 1 := by have := H.out.2.len; rw [H.out.1] at this; omega
      have hbr' : Blk wr w1.heap.size 90 (U (cur.take k ++ ((cur.drop k).take (n + 1) ++ cur.drop (k + (n + 1))))) := by rw [← v5]; exact hbr
      have hld : Lies wr w1.heap.size (some ⟨w.heap.size, 0, none⟩) (U (cd.take n)) := by
        rw [← U_take]
        refine Lies.take ?_ n
        refine .inr ⟨w.heap.size, 0, rfl, by omega, fun i v hv => ?_⟩
        rw [Nat.zero_add]; exact hbd.cell hv
      have ES := Lib.hid (estimate_at w1.heap.size (m + 1 - k) (n + 1) k n (some ⟨w.heap.size, 0, none⟩) (cur.take k) ((cur.drop k).take (n + 1)) (cur.drop (k + (n + 1))) (cd.take n) wr hbr' v6 hld v2 HHD.out.2.1 v1 HHD.out.2.2.1 hly (by omega) HHD.out.2.2.2 (by rw [HHD.out.1]; exact v3) (by omega) (by omega))
      have TK := Lib.hid (fun (g j : Nat) (hg : g < 4294967296) => takeOff_at w1.heap.size (m + 1 - k) (n + 1) g k n (some ⟨w.heap.size, 0, none⟩) (cur.take k) ((cur.drop k).take (n + 1)) (cur.drop (k + (n + 1))) (cd.take n) (wr.drewN j) hbr' v6 hld v2 HHD.out.2.1 v1 HHD.out.2.2.1 (by omega) (by omega) (by omega) (by omega) hg (by omega))
      have LR := Lib.hid (fun g b win => long_round (g := g) (b := b) (win := win) H.out.2 hkq hD0.out)
      rw [HHD.out.1] at ES TK
      have V6 := Lib.hid v6
      have HQL := Lib.hid H.out.1
      have hkm : k + n < m + 1 := by omega
      have hkc : k < m + 1 := by omega
      clear v1 v2 v3 v4 v5 v6 hcl hbr' hbr H
      generalize Nt.val ((cur.drop k).take (n + 1)) = R at *
      have hwl : k + n + 1 - k = n + 1 := by omega
      go_wp2_with fail
      refine ES.out.mono ?_
      rintro e w' ⟨g, rfl, HG, hg3, j, rfl⟩
      have TKg := Lib.hid (TK.out g j hg3)
      clear TK ES
      go_wp2_with fail
      refine TKg.out.mono ?_
      rintro e w4 ⟨win, b, rfl, hb1, hbr4, HW, hgr4⟩
      have hgr : wr.grownBy w4 (some w1.heap.size) := ⟨hgr4.os, hgr4.tape, hgr4.output, hgr4.size, hgr4.block⟩
      have hbq4 := hbq.grown hgr (by intro h; injection h with h; omega)
      have hbd4 := hbd.grown hgr (by intro h; injection h with h; omega)
      have hbel4 : Below w.heap.size w w4 := hbel.grown hgr hbel.size (fun k hk => by injection hk with hk; omega)
      have hR := LR.out g b win HG.out.1 HG.out.2 hg3 HW.out.1 HW.out.2.1 HW.out.2.2 hb1
      have hsz4 := hbel4.size
      have hltq := hbq4.lt
      clear hgr hgr4 hbq hbd hbel TKg LR
      rcases (show b = 0 ∨ b = 1 by omega) with rfl | rfl
      · have HN := Lib.hid (hR.1 rfl)
        clear hR
        have hcell : w4.cell? ⟨w2.heap.size, k, none⟩ = some (.int .u32 ((quo[k] : Nat) : Int)) := hbq4.cell (by rw [U, List.getElem?_map, List.getElem?_eq_getElem (by omega)]; rfl)
        have hfz := hbq4.frozen k
        generalize quo[k] = o at hcell
        have BS : Hid (Blk (w4.setCell ⟨w2.heap.size, k, none⟩ (.int .u32 (g : Int))) w2.heap.size 90 (U (quo.set k g))) := Lib.hid (by
          have := hbq4.set_ k (.int .u32 (g : Int))
          rw [show (U quo).set k (.int .u32 (g : Int)) = U (quo.set k g) from List.map_set.symm] at this
          exact this)
        have BR := Lib.hid (hbr4.far (p := ⟨w2.heap.size, k, none⟩) (by show w1.heap.size ≠ w2.heap.size; omega) (.int .u32 (g : Int)))
        have BD := Lib.hid (hbd4.far (p := ⟨w2.heap.size, k, none⟩) (by show w.heap.size ≠ w2.heap.size; omega) (.int .u32 (g : Int)))
        clear hbr4 hbd4 hbq4
        rw [show decide ((0 : Nat) = 1) = false from rfl]
        go_wp2_with fail
        refine ⟨⟨k, _, _, by omega, by go_num, BR.out, BS.out, BD.out, hbel4.setCell (by show w.heap.size ≤ w2.heap.size; omega) _, Lib.hid ⟨by rw [List.length_set]; exact HQL.out, HN.out⟩⟩, by simp [intOf]; try omega⟩
      · obtain ⟨hg1, hN⟩ := hR.2 rfl
        have HN := Lib.hid hN
        clear hR hN
        have hld4 : Lies w4 w1.heap.size (some ⟨w.heap.size, 0, none⟩) (U (cd.take n)) := by
          rw [← U_take]
          refine Lies.take ?_ n
          refine .inr ⟨w.heap.size, 0, rfl, by omega, fun i v hv => ?_⟩
          rw [Nat.zero_add]; exact hbd4.cell hv
        have PB := Lib.hid (putBack_at w1.heap.size (m + 1 - k) (n + 1) k n (some ⟨w.heap.size, 0, none⟩) (cur.take k) win (cur.drop (k + (n + 1))) (cd.take n) w4 hbr4 V6.out hld4 HW.out.2.1 HHD.out.2.1 HW.out.1 HHD.out.2.2.1 (by omega) (by omega) (by omega) (by omega) (by omega))
        rw [HHD.out.1] at PB
        clear hbr4 hld4
        rw [show decide ((1 : Nat) = 1) = true from rfl]
        go_wp2_with fail
        refine PB.out.mono ?_
        rintro e w5 ⟨win2, b', rfl, hbr5, HW2, hgr⟩
        have hbq5 := hbq4.grown hgr (by intro h; injection h with h; omega)
        have hbd5 := hbd4.grown hgr (by intro h; injection h with h; omega)
        have hbel5 : Below w.heap.size w w5 := hbel4.grown hgr hbel4.size (fun k hk => by injection hk with hk; omega)
        have hsz5 := hbel5.size
        have hltq5 := hbq5.lt
        clear hgr hbq4 hbd4 hbel4 PB
        have HN2 := Lib.hid (HN.out win2 b' HW2.out.1 HW2.out.2.1 HW2.out.2.2)
        have hcell : w5.cell? ⟨w2.heap.size, k, none⟩ = some (.int .u32 ((quo[k] : Nat) : Int)) := hbq5.cell (by rw [U, List.getElem?_map, List.getElem?_eq_getElem (by omega)]; rfl)
        have hfz := hbq5.frozen k
        generalize quo[k] = o at hcell
        have BS : Hid (Blk (w5.setCell ⟨w2.heap.size, k, none⟩ (.int .u32 ((g - 1 : Nat) : Int))) w2.heap.size 90 (U (quo.set k (g - 1)))) := Lib.hid (by
          have := hbq5.set_ k (.int .u32 ((g - 1 : Nat) : Int))
          rw [show (U quo).set k (.int .u32 ((g - 1 : Nat) : Int)) = U (quo.set k (g - 1)) from List.map_set.symm] at this
          exact this)
        have BR := Lib.hid (hbr5.far (p := ⟨w2.heap.size, k, none⟩) (by show w1.heap.size ≠ w2.heap.size; omega) (.int .u32 ((g - 1 : Nat) : Int)))
        have BD := Lib.hid (hbd5.far (p := ⟨w2.heap.size, k, none⟩) (by show w.heap.size ≠ w2.heap.size; omega) (.int .u32 ((g - 1 : Nat) : Int)))
        have e1 : ((g - 1 : Nat) : Int) = (g : Int) - 1 := by omega
        rw [e1] at BS BR BD
        clear hbr5 hbd5 hbq5 e1
        go_wp2_with fail
        refine ⟨⟨k, _, _, by omega, by go_num, BR.out, BS.out, BD.out, hbel5.setCell (by show w.heap.size ≤ w2.heap.size; omega) _, Lib.hid ⟨by rw [List.length_set]; exact HQL.out, HN2.out⟩⟩, by simp [intOf]; try omega⟩
end Go.Proofs.YtceplkpjnebnfaaGreatDoor

/-
  The contracts of chapter 2's functions at numbers that calls handed back ('IsRes').
-/
namespace Go.Proofs.YtceplkpjnebnfaaGreatDoor
open Go.RowKit
set_option maxHeartbeats 1000000
set_option maxRecDepth 100000
set_option linter.unusedVariables false

section
variable {w0 w : World} {v1 v2 : Value} {l1 l2 : List Nat}

theorem divMod_res (h1 : IsRes w v1 l1) (h2 : IsRes w v2 l2) (o1 : Nt.Ok l1) (o2 : Nt.Ok l2) (s1 : l1.length ≤ 1000000) (s2 : l2.length ≤ 1000000) (hb : Below w0.heap.size w0 w) :
    Calls Tryz.prog 182 #[v1, v2] w fun e w' => ∃ u1 u2, e = .returned (.tuple #[u1, u2, .bool (decide (Nt.val l2 ≠ 0))]) ∧ IsRes w' u1 (Nt.digs (Nt.quo (Nt.val l1) (Nt.val l2))) ∧ IsRes w' u2 (Nt.digs (Nt.rest (Nt.val l1) (Nt.val l2))) ∧ Below w0.heap.size w0 w' ∧ Below w.heap.size w w' := by
  obtain ⟨A, c, rfl, a1, a2, a3, a4⟩ := h1
  obtain ⟨A', c', rfl, b1, b2, b3, b4⟩ := h2
  refine (divMod_any A A' c c' w.heap.size l1 l2 w a4 b4 (Nat.le_refl _) o1 o2 a1 b1 a2 b2 s1 s2 (.inr long_any)).mono ?_
  rintro e w' ⟨u1, u2, rfl, r1, r2, hb'⟩
  exact ⟨u1, u2, rfl, r1, r2, hb.trans (hb'.mono hb.size), hb'⟩
theorem norm_res (h1 : IsRes w v1 l1) (o1 : Nt.Ok l1) (s1 : l1.length ≤ 1000000) (hb : Below w0.heap.size w0 w) :
    Calls Tryz.prog 120 #[v1] w fun e w' => ∃ v, e = .returned v ∧ IsRes w' v (Nt.digs (Nt.val l1)) ∧ Below w0.heap.size w0 w' ∧ Below w.heap.size w w' := by
  have hd := Nt.digs_len_le o1
  obtain ⟨A, c, rfl, a1, a2, a3, a4⟩ := h1
  refine (norm_any A c w.heap.size l1 w a4 (Nat.le_refl _) o1 a1 a2 (by omega)).mono ?_
  rintro e w' ⟨rfl, r, hb'⟩
  exact ⟨_, rfl, ⟨_, _, rfl, Nat.le_refl _, by omega, (fun h => by cases h), r.lies⟩, hb.trans (hb'.mono hb.size), hb'⟩
end

end Go.Proofs.YtceplkpjnebnfaaGreatDoor

/-
  What nat.Gcd and scrimref02.Gcd compute: the greatest number that divides both.
-/
namespace Go.Proofs.YtceplkpjnebnfaaGreatDoor
open Go.RowKit
set_option maxHeartbeats 1000000
set_option maxRecDepth 100000
set_option linter.unusedVariables false

/-- Greatest common divisors of limbs: what a round needs. -/
theorem gcd_any (A A' : Option Addr) (c c' : Nat) (a b : List Nat) (w : World) (hx : IsRes w (.slice A a.length c) a) (hy : IsRes w (.slice A' b.length c') b) (ha : Nt.Ok a) (hb : Nt.Ok b) (hs : a.length ≤ 1000000) (hs' : b.length ≤ 1000000) :
    Calls Tryz.prog 153 #[.slice A a.length c, .slice A' b.length c'] w fun e w' => ∃ v, e = .returned v ∧ IsRes w' v (Nt.digs (Nat.gcd (Nt.val a) (Nt.val b))) ∧ Below w.heap.size w w' := by
  have ha' := Nt.digs_len_le ha
  have hb' := Nt.digs_len_le hb
  obtain ⟨_, _, e1, a1, a2, a3, a4⟩ := hx
  obtain ⟨_, _, e2, b1, b2, b3, b4⟩ := hy
  injection e1 with e1 _ e1'; subst e1 e1'
  injection e2 with e2 _ e2'; subst e2 e2'
  have TA := Lib.hid (trim_any A c w.heap.size a w a4 ha a1 a2)
  have TB := Lib.hid (trim_any A' c' w.heap.size b w b4 hb b1 b2)
  have RA : Hid (∀ A', A' = A → IsRes w (.slice A (Nt.digs (Nt.val a)).length (Nt.digs (Nt.val a)).length) (Nt.digs (Nt.val a))) := Lib.hid (fun _ _ => ⟨A, _, rfl, Nat.le_refl _, by omega, (fun h => by have := a3 h; omega), a4.digs ha⟩)
  have RB : Hid (IsRes w (.slice A' (Nt.digs (Nt.val b)).length (Nt.digs (Nt.val b)).length) (Nt.digs (Nt.val b))) := Lib.hid ⟨A', _, rfl, Nat.le_refl _, by omega, (fun h => by have := b3 h; omega), b4.digs hb⟩
  clear a1 a2 a3 a4 b1 b2 b3 b4 ha hb
  have hla : (Nt.digs (Nt.val a)).length ≤ 1000000 := by omega
  have hlb : (Nt.digs (Nt.val b)).length ≤ 1000000 := by omega
  clear ha' hb' hs hs'
  obtain ⟨x0, hx0⟩ : ∃ x, x = Nt.val a := ⟨_, rfl⟩
  obtain ⟨y0, hy0⟩ : ∃ y, y = Nt.val b := ⟨_, rfl⟩
  rw [← hx0] at TA RA hla ⊢
  rw [← hy0] at TB RB hlb ⊢
  clear hx0 hy0
  go_enter Tryz.func153, Tryz.ntmps153
  go_wp2_with fail
  refine TA.out.mono ?_
  rintro e w' ⟨rfl, rfl⟩
  go_wp2_with fail
  refine TB.out.mono ?_
  rintro e w' ⟨rfl, rfl⟩
  go_wp2_with fail
  go_loopg [0, 1] y0 (fun gk av bv wr => ∃ (A A' : Option Addr) (c c' x y : Nat), av = .slice A (Nt.digs x).length c ∧ bv = .slice A' (Nt.digs y).length c' ∧ y ≤ gk ∧ Hid (IsRes wr (.slice A (Nt.digs x).length c) (Nt.digs x) ∧ IsRes wr (.slice A' (Nt.digs y).length c') (Nt.digs y)) ∧ (Nt.digs x).length ≤ 1000000 ∧ (Nt.digs y).length ≤ 1000000 ∧ Hid (Nat.gcd x y = Nat.gcd x0 y0) ∧ Below w.heap.size w wr)
  case atStart => exact ⟨_, _, _, _, x0, y0, rfl, rfl, Nat.le_refl _, Lib.hid ⟨RA.out _ rfl, RB.out⟩, hla, hlb, Lib.hid rfl, Below.refl _ _⟩
  case round =>
    clear TA TB RA RB hla hlb
    obtain ⟨P, P', k, k', x, y, rfl, rfl, hyk, HR, hlx, hly, HG, hbel⟩ := hrel
    by_cases h0 : y = 0
    · subst h0
      have HZ : Hid ((Nt.digs 0).length = 0) := Lib.hid (by rw [Nt.digs_zero]; rfl)
      have NA := Lib.hid (norm_res (w0 := w) HR.out.1 (Nt.ok_digs x) hlx hbel)
      have HE : Hid (Nat.gcd x0 y0 = x) := Lib.hid (by rw [← HG.out, Nat.gcd_zero_right])
      rw [Nt.val_digs] at NA
      rw [HZ.out]
      clear HR HG
      go_wp2_with fail
      refine NA.out.mono ?_
      rintro e w1 ⟨v, rfl, hr, hb1, _⟩
      go_wp2_with fail
      go_ret
      exact ⟨_, rfl, by rw [HE.out]; exact hr, hb1⟩
    · have hlp : 0 < (Nt.digs y).length := by
        rcases Nat.eq_zero_or_pos (Nt.digs y).length with h | h
        · exact absurd (Nt.digs_nil_iff.1 (List.eq_nil_of_length_eq_zero h)) h0
        · exact h
      by_cases h2 : (Nt.digs x).length ≤ 2 ∧ (Nt.digs y).length ≤ 2
      · obtain ⟨h2x, h2y⟩ := h2
        obtain ⟨⟨_, _, e1, a1, a2, a3, a4⟩, ⟨_, _, e2, b1, b2, b3, b4⟩⟩ := HR.out
        injection e1 with e1 _ e1'; subst e1 e1'
        injection e2 with e2 _ e2'; subst e2 e2'
        have WA := Lib.hid (word_any P k wr.heap.size (Nt.digs x) wr a4 (Nt.ok_digs x) h2x)
        have WB := Lib.hid (word_any P' k' wr.heap.size (Nt.digs y) wr b4 (Nt.ok_digs y) h2y)
        rw [Nt.val_digs] at WA WB
        have hxa : x < 18446744073709551616 := by
          have h := Nt.val_lt (Nt.ok_digs x)
          rw [Nt.val_digs] at h
          exact Nat.lt_of_lt_of_le h (Nat.le_trans (Nat.pow_le_pow_right (by omega) h2x) (by decide))
        have hxb : y < 18446744073709551616 := by
          have h := Nt.val_lt (Nt.ok_digs y)
          rw [Nt.val_digs] at h
          exact Nat.lt_of_lt_of_le h (Nat.le_trans (Nat.pow_le_pow_right (by omega) h2y) (by decide))
        clear HR a1 a2 a3 a4 b1 b2 b3 b4
        go_wp2_with fail
        refine WA.out.mono ?_
        rintro e w' ⟨rfl, rfl⟩
        go_wp2_with fail
        refine WB.out.mono ?_
        rintro e w' ⟨rfl, rfl⟩
        go_wp2_with fail
        refine (small_any x y _ hxa hxb).mono ?_
        rintro e w1 ⟨v, rfl, hr, hb1⟩
        go_wp2_with fail
        go_ret
        exact ⟨_, rfl, by rw [← HG.out]; exact hr, hbel.trans (hb1.mono hbel.size)⟩
      · have DM := Lib.hid (divMod_res (w0 := w) HR.out.1 HR.out.2 (Nt.ok_digs x) (Nt.ok_digs y) hlx hly hbel)
        rw [Nt.val_digs, Nt.val_digs, Nt.rest_pos h0] at DM
        have hyp : x % y < y := Nat.mod_lt _ (by omega)
        have hlr : (Nt.digs (x % y)).length ≤ 1000000 := by
          have h := Nt.digs_len_le_of (Nat.le_of_lt hyp)
          omega
        have HG2 : Hid (Nat.gcd y (x % y) = Nat.gcd x0 y0) := Lib.hid (by rw [Nt.gcd_step]; exact HG.out)
        have HRY := Lib.hid HR.out.2
        clear HR HG h0
        obtain ⟨r, hr⟩ : ∃ r, r = x % y := ⟨_, rfl⟩
        rw [← hr] at DM hyp hlr HG2
        clear hr
        by_cases h2x : (Nt.digs x).length ≤ 2
        · have h2y : ¬ (Nt.digs y).length ≤ 2 := fun h => h2 ⟨h2x, h⟩
          clear h2
          go_wp2_with fail
          refine DM.out.mono ?_
          rintro e w1 ⟨u1, u2, rfl, hr1, hr2, hb1, hb01⟩
          have hry := HRY.out.below hb01
          obtain ⟨A2, c2, rfl, q1, q2, q3, q4⟩ := hr2
          have hr2' : IsRes w1 (.slice A2 (Nt.digs r).length c2) (Nt.digs r) := ⟨A2, c2, rfl, q1, q2, q3, q4⟩
          clear q1 q2 q3 q4 hr1 hb01 HRY DM
          have HRN := Lib.hid (And.intro hry hr2')
          clear hry hr2'
          go_wp2_with fail
          go_roundg r
          case measure => omega
          case rel => exact ⟨_, _, _, _, y, r, rfl, rfl, Nat.le_refl _, HRN, hly, hlr, HG2, hb1⟩
        · clear h2
          go_wp2_with fail
          refine DM.out.mono ?_
          rintro e w1 ⟨u1, u2, rfl, hr1, hr2, hb1, hb01⟩
          have hry := HRY.out.below hb01
          obtain ⟨A2, c2, rfl, q1, q2, q3, q4⟩ := hr2
          have hr2' : IsRes w1 (.slice A2 (Nt.digs r).length c2) (Nt.digs r) := ⟨A2, c2, rfl, q1, q2, q3, q4⟩
          clear q1 q2 q3 q4 hr1 hb01 HRY DM
          have HRN := Lib.hid (And.intro hry hr2')
          clear hry hr2'
          go_wp2_with fail
          go_roundg r
          case measure => omega
          case rel => exact ⟨_, _, _, _, y, r, rfl, rfl, Nat.le_refl _, HRN, hly, hlr, HG2, hb1⟩
end Go.Proofs.YtceplkpjnebnfaaGreatDoor

/-
  The program's ratio.Make. (Printed by wip/bin/gen_dig3.py.)
-/
namespace Go.Proofs.YtceplkpjnebnfaaGreatDoor
open Go.RowKit
set_option maxHeartbeats 4000000
set_option maxRecDepth 100000
set_option linter.unusedVariables false

theorem digs_one : Nt.digs 1 = [1] := by rw [Nt.digs_pos (by decide)]; simp [Nt.digs_zero]
end Go.Proofs.YtceplkpjnebnfaaGreatDoor

/-
  What scrimref02.Text computes.
-/
namespace Nt
/-- Limbs divided from the top down, the quotient's put ahead of each other. -/
def TenDnAt (l : List Nat) (cur : List Nat) (k r : Nat) : Prop := cur.length + k = l.length ∧ Ok cur ∧ r < 10 ∧ val cur * 10 + r = val (l.drop k)
theorem tenDn_start (l : List Nat) : TenDnAt l [] l.length 0 := ⟨by simp, ok_nil, by omega, by simp [val]⟩
theorem tenDn_step {l cur : List Nat} {k r : Nat} (h : TenDnAt l cur (k + 1) r) (hk : k < l.length) (hl : Ok l) : TenDnAt l ((r * 4294967296 + l[k]) / 10 :: cur) k ((r * 4294967296 + l[k]) % 10) := by
  obtain ⟨h1, h2, h3, h4⟩ := h
  have hx := ok_get hl hk
  refine ⟨by simp; omega, fun d hd => ?_, by omega, ?_⟩
  · rcases List.mem_cons.1 hd with e | e
    · rw [e]; omega
    · exact h2 d e
  · rw [List.drop_eq_getElem_cons hk, val, val, ← h4]
    generalize l[k] = x at *
    generalize val cur = V at *
    omega
theorem tenDn_end {l cur : List Nat} {r : Nat} (h : TenDnAt l cur 0 r) : val cur = val l / 10 ∧ r = val l % 10 := by
  obtain ⟨h1, h2, h3, h4⟩ := h
  rw [List.drop_zero] at h4
  omega
end Nt
namespace Go.Proofs.YtceplkpjnebnfaaGreatDoor
open Go.RowKit
set_option maxHeartbeats 1000000
set_option maxRecDepth 100000
set_option linter.unusedVariables false

def strLen : Value → Nat
  | .string b => b.size
  | _ => 0
theorem Lies.cells_ {w : World} {B : Nat} {ad : Addr} {xs : List Value} (h : Lies w B (some ad) xs) : ∀ j u, xs[j]? = some u → w.cell? (ad.add j) = some u := fun j u hj => by
  have hp : 0 < xs.length := by
    rcases Nat.lt_or_ge j xs.length with h' | h'
    · omega
    · rw [List.getElem?_eq_none h'] at hj; cases hj
  obtain ⟨ad', h1, h2⟩ := h.src hp
  injection h1 with h1
  subst h1
  exact h2 j u hj
theorem digit_cut {r : Nat} (h : r < 10) : (⟨#[48, 49, 50, 51, 52, 53, 54, 55, 56, 57]⟩ : ByteArray).extract r (r + 1) = ⟨#[Ten.dch r]⟩ := by
  match r, h with
  | 0, _ => decide
  | 1, _ => decide
  | 2, _ => decide
  | 3, _ => decide
  | 4, _ => decide
  | 5, _ => decide
  | 6, _ => decide
  | 7, _ => decide
  | 8, _ => decide
  | 9, _ => decide
def topE (k : Nat) : Nat := 10 ^ (10 * (k + 1))
theorem val_top (k : Nat) {l : List Nat} (ho : Nt.Ok l) (hs : l.length ≤ k + 1) : Nt.val l < topE k := by
  have h1 := Nt.val_lt ho
  have h2 : (4294967296 : Nat) ^ l.length ≤ 4294967296 ^ (k + 1) := Nat.pow_le_pow_right (by omega) hs
  have h3 : (4294967296 : Nat) ^ (k + 1) ≤ (10 ^ 10) ^ (k + 1) := Nat.pow_le_pow_left (by omega) (k + 1)
  rw [← Nat.pow_mul] at h3
  exact Nat.lt_of_lt_of_le h1 (Nat.le_trans h2 h3)
theorem dec_top (k : Nat) {n : Nat} (h : n < topE k) : (Lib.decDigits n).length ≤ 10 * (k + 1) := by
  have := (Ten.dec_len (k := 10 * k + 9) (r := n) (by rw [show 10 * k + 9 + 1 = 10 * (k + 1) by omega]; exact h)).2
  omega
theorem dec_bound {l : List Nat} (ho : Nt.Ok l) (hs : l.length ≤ 1000) : (Lib.decDigits (Nt.val l)).length ≤ 10000 := dec_top 999 (val_top 999 ho hs)
theorem OutAt_len {n y : Nat} {T : List UInt8} (h : Ten.OutAt n y T) : T.length ≤ (Lib.decDigits n).length ∧ (0 < y → T.length < (Lib.decDigits n).length) := by
  have hne := Ten.dec_ne y
  have : 0 < (Lib.decDigits y).length := List.length_pos_iff.2 hne
  rcases Nat.eq_zero_or_pos y with e | e
  · exact ⟨by rw [h.2 e]; exact Nat.le_refl _, fun h' => by omega⟩
  · have := h.1 e
    exact ⟨by rw [this, List.length_append]; omega, fun _ => by rw [this, List.length_append]; omega⟩

theorem refText_any (A : Option Addr) (c B : Nat) (l : List Nat) (w : World) (hl : Lies w B A (U l)) (hB : B ≤ w.heap.size) (ho : Nt.Ok l) (hc : l.length ≤ c) (hm : c ≤ 9223372036854775807) (hA : A = none → c = 0) (hs : l.length ≤ 1000) :
    Calls Tryz.prog 133 #[.slice A l.length c] w fun e w' => e = .returned (.string ⟨(Lib.decDigits (Nt.val l)).toArray⟩) ∧ Below w.heap.size w w' := by
  obtain ⟨i0, hi, hz0, hz1, hz2⟩ := info_parts u32_info
  have hdl := Nt.digs_len_le ho
  have hlen := dec_bound ho hs
  have RN := Lib.hid (refNorm_any A c B l w hl hB ho hc hm hA (by omega))
  clear hl ho
  generalize Nt.val l = n at *
  go_enter Tryz.func133, Tryz.ntmps133
  go_wp2_with fail
  refine RN.out.mono ?_
  rintro e w1 ⟨v, rfl, hres, hb1⟩
  obtain ⟨A1, c1, rfl, hc1, hc2, hc3, hlies⟩ := hres
  by_cases h0 : n = 0
  · subst h0
    rw [Nt.digs_zero]
    clear RN
    have HZ : Hid (Lib.decDigits 0 = [48]) := Lib.hid (Ten.dec_small (by omega))
    go_wp2_with fail
    go_ret
    rw [HZ.out]
    exact ⟨rfl, hb1⟩
  · have hne : (Nt.digs n).length ≠ 0 := fun e => h0 (Nt.digs_nil_iff.1 (List.eq_nil_of_length_eq_zero e))
    have hne2 : (((Nt.digs n).length : Int) == 0) = false := by rw [beq_eq_false_iff_ne]; omega
    clear RN
    go_wp2_with fail
    go_loopw [3, 4] (fun xv sv wr => ∃ (y : Nat) (T : List UInt8), (Nt.digs y).length ≤ 1000 ∧ T.length ≤ 10000 ∧ sv = .string ⟨T.toArray⟩ ∧ IsRes wr xv (Nt.digs y) ∧ Below w.heap.size w wr ∧ Hid (Ten.OutAt n y T)) (fun _ sv _ => 10001 - strLen sv)
    case atStart => exact ⟨n, [], by omega, by simp, rfl, ⟨A1, c1, rfl, hc1, hc2, hc3, hlies⟩, hb1, Lib.hid (Ten.OutAt.start (by omega))⟩
    case round =>
      clear hlies hc1 hc2 hc3 hb1 hne hne2
      obtain ⟨y, T, hyl, hT, rfl, ⟨A1, c1, rfl, hc1, hc2, hc3, hlies⟩, hbel, H⟩ := hrel
      have hsz := hbel.size
      by_cases hy0 : y = 0
      · subst hy0
        have HE := Lib.hid (H.out.2 rfl)
        rw [Nt.digs_zero]
        go_wp2_with fail
        go_ret
        rw [HE.out]
        exact ⟨rfl, hbel⟩
      · have hypos : 0 < (Nt.digs y).length := Nat.pos_of_ne_zero (fun e => hy0 (Nt.digs_nil_iff.1 (List.eq_nil_of_length_eq_zero e)))
        have hTl := (OutAt_len H.out).2 (by omega)
        have STEP := Lib.hid (H.out.step (by omega))
        have HDE : Hid (∀ cur r, Nt.TenDnAt (Nt.digs y) cur 0 r → Nt.val cur = y / 10 ∧ r = y % 10 ∧ Nt.Ok cur ∧ cur.length = (Nt.digs y).length) := Lib.hid (fun cur r h => by
          have := Nt.tenDn_end h
          rw [Nt.val_digs] at this
          exact ⟨this.1, this.2, h.2.1, by have := h.1; omega⟩)
        have HYL : Hid ((Nt.digs (y / 10)).length ≤ 1000) := Lib.hid (Nat.le_trans (Nt.digs_len_le_of (Nat.div_le_self y 10)) hyl)
        have OX := Lib.hid (Nt.ok_digs y)
        have DS := Lib.hid (Nt.tenDn_start (Nt.digs y))
        obtain ⟨dx, hdx⟩ : ∃ dx, dx = Nt.digs y := ⟨_, rfl⟩
        rw [← hdx] at hyl hc1 hlies hypos HDE OX DS ⊢
        clear hdx H
        rename World => W
        go_wp2_with fail
        go_loopw [5, 6, 7] (fun ov rv iv wq => ∃ (k r : Nat) (cur : List Nat), k ≤ dx.length ∧ r < 10 ∧ iv = .int .i64 ((k : Int) - 1) ∧ rv = .int .u64 (r : Int) ∧ IsRes wq ov cur ∧ Below W.heap.size W wq ∧ Hid (Nt.TenDnAt dx cur k r)) (fun _ _ iv _ => (intOf iv + 1).toNat)
        case atStart => exact ⟨dx.length, 0, [], Nat.le_refl _, by omega, by go_num, rfl, IsRes.none_ _, Below.refl _ _, DS⟩
        case round =>
          obtain ⟨k, r, cur, hk, hr, rfl, rfl, ⟨A2, c2, rfl, hd1, hd2, hd3, hl2⟩, hbq, HQ⟩ := hrel
          have hszq := hbq.size
          rcases k with _ | k
          · obtain ⟨hv1, hv2, hv3, hv4⟩ := HDE.out cur r HQ.out
            have RN := Lib.hid (refNorm_any A2 c2 _ cur wr hl2 (Nat.le_refl _) hv3 hd1 hd2 hd3 (by omega))
            rw [hv1] at RN
            rw [← hv2] at STEP
            have HDG := Lib.hid (digit_cut hr)
            have hcl : cur.length ≤ 1000 := by omega
            clear hv1 hv2 hv3 hv4 hl2 hd3 HDE DS OX
            go_wp2_with fail
            rw [HDG.out, show (⟨#[Ten.dch r]⟩ : ByteArray) ++ ⟨T.toArray⟩ = ⟨(Ten.dch r :: T).toArray⟩ from by
              apply ByteArray.ext; simp]
            refine RN.out.mono ?_
            rintro e w3 ⟨v3, rfl, hres3, hb3⟩
            have hyq : (Nt.digs (y / 10)).length ≤ 1000 := HYL.out
            go_wp2_with fail
            exact ⟨⟨y / 10, Ten.dch r :: T, hyq, by simp; omega, rfl, hres3, hbel.trans ((hbq.trans (hb3.mono hszq)).mono hsz), STEP⟩, by simp [strLen, ByteArray.size]; omega⟩
          · have hk1 : ((k + 1 : Nat) : Int) - 1 = (k : Int) := by omega
            rw [hk1]
            clear hk1
            have hkl : k < dx.length := by omega
            obtain ⟨b, off, rfl, hbb, hcell⟩ := (hlies.below hbq).limb hkl
            have hxb := Nt.ok_get OX.out hkl
            have ST := Lib.hid (Nt.tenDn_step HQ.out hkl OX.out)
            have hcl : cur.length + (k + 1) = dx.length := HQ.out.1
            generalize dx[k] = x at hcell hxb ST
            obtain ⟨t, ht⟩ : ∃ t, t = r * 4294967296 + x := ⟨_, rfl⟩
            have hti : (r : Int) * 4294967296 + (x : Int) = (t : Int) := by omega
            have htb : t < 42949672960 := by omega
            rw [← ht] at ST
            clear ht
            obtain ⟨q, hq⟩ : ∃ q, q = t / 10 := ⟨_, rfl⟩
            have hqi : (t : Int) / 10 = (q : Int) := by omega
            have hqb : q < 4294967296 := by omega
            obtain ⟨r2, hr2⟩ : ∃ r2, r2 = t % 10 := ⟨_, rfl⟩
            have hri : (t : Int) % 10 = (r2 : Int) := by omega
            have hrb : r2 < 10 := by omega
            rw [← hq, ← hr2] at ST
            clear hq hr2
            have hown1 : (wr.alloc (.cells #[.int .u32 (q : Int)] 90)).ownsRow W.heap.size 90 1 (.slice (some ⟨wr.heap.size, 0, none⟩) 1 1) 1 [.int .u32 (q : Int)] := (Blk.new wr 90 [.int .u32 (q : Int)]).own_all hszq (by simp [maxLen])
            have hb4 := hbq.alloc hszq (.cells #[.int .u32 (q : Int)] 90)
            rcases A2 with _ | ad
            · have hc0 : c2 = 0 := hd3 rfl
              subst hc0
              obtain rfl : cur = [] := List.eq_nil_of_length_eq_zero (by omega)
              go_wp2_with (at_builtin; refine wpList_append_own_none rfl _ _ 22 rfl W.heap.size 90 i0 1 Tryz.underlying22 hi _ 1 _ rfl hown1 rfl ?_)
              refine ⟨⟨k, r2, [q], by omega, hrb, by go_num, congrArg (Value.int .u64) (by omega), IsRes.of_own (base := W.heap.size) hown1, hb4, ST⟩, ?_⟩
              first | (simp [intOf]; done) | (simp [intOf]; omega)
            · have hl3 : Lies (wr.alloc (.cells #[.int .u32 (q : Int)] 90)) wr.heap.size (some ad) (U cur) := Lies.below (show Lies wr wr.heap.size (some ad) (U cur) from hl2) ((Below.refl _ _).alloc (Nat.le_refl _) _)
              clear hd3
              go_wp2_with (at_builtin; refine wpList_append_own _ rfl _ _ 22 rfl W.heap.size 90 i0 (.int .u32 0) 1 4 Tryz.underlying22 hi hz0 hz1 hz2 rfl (by decide) _ 1 _ rfl hown1 ad cur.length c2 (U cur) rfl (by rw [U_len]; omega) (Lies.cells_ hl3) (U_one _) (by unfold maxLen; omega) (by omega) (by simp; omega) ?_; intro v3 w3 hown3 hgrow3 hnn3)
              have hb3 : Below W.heap.size W w3 := hb4.grown hgrow3 (by simp; omega) (fun k hk => by injection hk with hk; subst hk; exact hszq)
              refine ⟨⟨k, r2, q :: cur, by omega, hrb, by go_num, congrArg (Value.int .u64) (by omega), IsRes.of_own (base := W.heap.size) ?_, hb3, ST⟩, ?_⟩
              · rw [Nat.add_comm] at hown3; exact hown3
              · first | (simp [intOf]; done) | (simp [intOf]; omega)
end Go.Proofs.YtceplkpjnebnfaaGreatDoor

/-
  What nat.Text computes.
-/
namespace Go.Proofs.YtceplkpjnebnfaaGreatDoor
open Go.RowKit
set_option maxHeartbeats 1000000
set_option maxRecDepth 100000
set_option linter.unusedVariables false

theorem own_keep {w w' : World} {base n : Nat} {t : TypeId} {v : Value} {xs : List Value} (h : w.ownsRow base t 1 v n xs) (hk : ∀ g, base ≤ g → g < w.heap.size → w'.heap[g]? = w.heap[g]?) : w'.ownsRow base t 1 v n xs := by
  refine ⟨h.1, ?_⟩
  rcases h.2 with h2 | ⟨g, cap, cur, hv, hb, hg, hr⟩
  · exact .inl h2
  · refine .inr ⟨g, cap, cur, hv, hb, ?_, hr⟩
    rw [hk g hb (by
      rcases Nat.lt_or_ge g w.heap.size with h' | h'
      · exact h'
      · rw [Array.getElem?_eq_none h'] at hg; cases hg)]
    exact hg
theorem builder_below {w w' : World} {T e : TypeId} {B b : Nat} {bs : List Value} (h : Lib.IsBuilder T e B b bs w) (hb : Below w.heap.size w w') : Lib.IsBuilder T e B b bs w' := by
  have one : ∀ {p : Value}, Lib.BuilderAt T e B b p bs w → Lib.BuilderAt T e B b p bs w' := fun {p} k => by
    have hlt := k.lt
    obtain ⟨h1, v, h2, h3, h4⟩ := k
    exact ⟨h1, v, (hb.block b hlt).trans h2, own_keep h3 (fun g _ hg => hb.block g hg), h4⟩
  exact h.imp one one
theorem tabIs_below {P : Program} {w w' : World} {name : String} {k : IntKind} {zs : List Int} {B : Nat} (h : Lib.TabIs P w name k zs) (hb : Below B w w') (hg : ∀ g, P.globalNamed name = some g → g < B) : Lib.TabIs P w' name k zs := by
  unfold Lib.TabIs World.var? at *
  cases he : P.globalNamed name with
  | none => simp [he] at h
  | some g =>
    simp only [he, Option.bind_some] at h ⊢
    rw [hb.block g (hg g he)]
    exact h
def sliceLen : Value → Nat
  | .slice _ n _ => n
  | _ => 0
def grps (v i : Nat) : List Nat := (List.range i).map (Ten.grp v)
theorem grps_len (v i : Nat) : (grps v i).length = i := by simp [grps]
theorem grps_next (v i : Nat) : grps v (i + 1) = grps v i ++ [Ten.grp v i] := by simp [grps, List.range_succ]
theorem grps_at {v i j : Nat} (h : j < i) : (grps v i)[j]? = some (Ten.grp v j) := by
  rw [grps, List.getElem?_map, List.getElem?_range h]; rfl
theorem rounds_top (k : Nat) {v i : Nat} (hv : v < topE k) (h : 0 < v / 1000000000 ^ i) : 9 * i < 10 * (k + 1) := by
  rcases Nat.lt_or_ge (9 * i) (10 * (k + 1)) with h' | h'
  · exact h'
  · exfalso
    have h1 : (10 : Nat) ^ (10 * (k + 1)) ≤ 10 ^ (9 * i) := Nat.pow_le_pow_right (by omega) h'
    rw [Nat.pow_mul 10 9 i] at h1
    rw [Nat.div_eq_of_lt (Nat.lt_of_lt_of_le hv h1)] at h
    omega
theorem rounds_le {v i : Nat} (hv : v < topE 999) (h : 0 < v / 1000000000 ^ i) : i < 1112 := by
  have := rounds_top 999 hv h
  omega
theorem val_bound {l : List Nat} (ho : Nt.Ok l) (hs : l.length ≤ 1000) : Nt.val l < topE 999 := val_top 999 ho hs
theorem dec_short {m n : Nat} (h : m ≤ n) (hn : n < topE 999) : (Lib.decDigits m).length ≤ 10000 := dec_top 999 (Nat.lt_of_le_of_lt h hn)
theorem rep_eq : ∀ c, Lib.repeatL [48] c = List.replicate c 48
  | 0 => rfl
  | c + 1 => by rw [Lib.repeatL, rep_eq c, List.replicate_succ]; rfl
theorem div_pos_of {n i j : Nat} (h : 0 < n / 1000000000 ^ j) (hij : i ≤ j) : 0 < n / 1000000000 ^ i :=
  Nat.lt_of_lt_of_le h (Nat.div_le_div_left (Nat.pow_le_pow_right (by omega) hij) (Nat.pow_pos (by omega)))

theorem text_any (A : Option Addr) (c B : Nat) (l : List Nat) (w : World) (hl : Lies w B A (U l)) (hB : B ≤ w.heap.size) (ho : Nt.Ok l) (hc : l.length ≤ c) (hm : c ≤ 9223372036854775807) (hs : l.length ≤ 1000)
    (htab : Lib.TabIs Tryz.prog w "internal/strconv.uint64pow10" .u64 Lib.pow10Tab) (hg : ∀ g, Tryz.prog.globalNamed "internal/strconv.uint64pow10" = some g → g < w.heap.size) :
    Calls Tryz.prog 66 #[.slice A l.length c] w fun e w' => e = .returned (.string ⟨(Lib.decDigits (Nt.val l)).toArray⟩) ∧ Below w.heap.size w w' := by
  obtain ⟨i0, hi, hz0, hz1, hz2⟩ := info_parts u32_info
  have hdl := Nt.digs_len_le ho
  have hlen := dec_bound ho hs
  have hvb := Lib.hid (val_bound ho hs)
  have RN := Lib.hid (norm_any A c B l w hl hB ho hc hm (by omega))
  have HTAB := Lib.hid htab
  have HG := Lib.hid hg
  clear hl ho htab hg
  generalize Nt.val l = n at *
  go_enter Tryz.func66, Tryz.ntmps66
  go_wp2_with fail
  refine RN.out.mono ?_
  rintro e w1 ⟨rfl, hblk1, hb1⟩
  by_cases h0 : n = 0
  · subst h0
    rw [Nt.digs_zero]
    clear RN
    have HZ : Hid (Lib.decDigits 0 = [48]) := Lib.hid (Ten.dec_small (by omega))
    go_wp2_with fail
    go_ret
    rw [HZ.out]
    exact ⟨rfl, hb1⟩
  · have hne : (Nt.digs n).length ≠ 0 := fun e => h0 (Nt.digs_nil_iff.1 (List.eq_nil_of_length_eq_zero e))
    have hne2 : (((Nt.digs n).length : Int) == 0) = false := by rw [beq_eq_false_iff_ne]; omega
    clear RN
    have hsz1 := hblk1.lt
    go_wp2_with (at_make; refine wpList_make_blk _ rfl _ _ 22 rfl 90 i0 (.int .u32 0) Tryz.underlying22 hi hz0 hz1 rfl .i64 .i64 _ _ 0 ((Nt.digs n).length + (Nt.digs n).length / 8 + 1) rfl rfl rfl (by go_num) (by omega) (by rw [hz2]; omega) (by omega) w.heap.size w hb1 (by omega) ?_; intro w2 hblk2 hb2 hb2' hlt2)
    have hown2 : w2.ownsRow (w.heap.size + 1) 90 1 (.slice (some ⟨w1.heap.size, 0, none⟩) 0 ((Nt.digs n).length + (Nt.digs n).length / 8 + 1)) 0 [] := by
      have := hblk2.own (base := w.heap.size + 1) (n := 0) (by omega) (by omega) (by simp [maxLen]; omega)
      simpa using this
    have hblkG := hblk1.keep hb2' hsz1
    clear hblk1 hblk2 hb1 hb2' hlt2
    go_loopw [3, 4] (fun rv gv wr => ∃ (i y cc : Nat) (tl : List Value), i ≤ 1112 ∧ (Nt.digs y).length ≤ 1000 ∧ (Nt.digs y).length ≤ cc ∧ cc ≤ 1000 ∧ rv = .slice (some ⟨w.heap.size, 0, none⟩) (Nt.digs y).length cc ∧ Blk wr w.heap.size 90 (U (Nt.digs y) ++ tl) ∧ wr.ownsRow (w.heap.size + 1) 90 1 gv i (U (grps n i)) ∧ Below w.heap.size w wr ∧ Hid (y = n / 1000000000 ^ i ∧ (i = 0 ∨ 0 < n / 1000000000 ^ (i - 1)))) (fun _ gv _ => 1200 - sliceLen gv)
    case atStart => exact ⟨0, n, (Nt.digs n).length, [], by omega, by omega, Nat.le_refl _, by omega, rfl, by rw [List.append_nil]; exact hblkG, hown2, hb2, Lib.hid ⟨by simp, .inl rfl⟩⟩
    case round =>
      clear hown2 hblkG hb2 hne hne2
      obtain ⟨i, y, cc, tl, hi12, hyl, hycc, hcc, rfl, hblk, hown, hbel, H⟩ := hrel
      have hsz := hbel.size
      have hszG := hblk.lt
      obtain ⟨A2, C2, rfl, hC1, hC2⟩ := own_slice hown
      by_cases hy0 : y = 0
      · subst hy0
        rw [Nt.digs_zero]
        go_wp2_with fail
        have hip : 0 < i := by
          rcases Nat.eq_zero_or_pos i with e | e
          · have := H.out.1; rw [e] at this; simp at this; omega
          · exact e
        have HT0 : Hid (n / 1000000000 ^ i = 0 ∧ 0 < n / 1000000000 ^ (i - 1)) := Lib.hid ⟨H.out.1.symm, H.out.2.resolve_left (by omega)⟩
        have HLG := Lib.hid (Lies.of_own hown)
        have HTABW : Hid (∀ wq, Below wr.heap.size wr wq → Lib.TabIs Tryz.prog wq "internal/strconv.uint64pow10" .u64 Lib.pow10Tab) := Lib.hid (fun wq hq => tabIs_below (tabIs_below HTAB.out hbel HG.out) hq (fun g hg => Nat.lt_of_lt_of_le (HG.out g hg) hsz))
        have hbld0 : Lib.IsBuilder 42 5 wr.heap.size wr.heap.size (Lib.byteCells []) (wr.alloc (.cells #[.pointer none, .slice none 0 0] 42)) := .inl ⟨Nat.le_refl _, .slice none 0 0, heap_alloc_new wr _, World.ownsRow_nil _ _ _ _, by simp [Value.ownBlock]⟩
        have hbq0 : Below wr.heap.size wr (wr.alloc (.cells #[.pointer none, .slice none 0 0] 42)) := (Below.refl _ _).alloc (Nat.le_refl _) _
        clear hown hblk H
        rename World => W
        go_loopw [6] (fun iv wq => ∃ (k : Nat) (T : List UInt8), k ≤ i ∧ T.length ≤ 10000 ∧ iv = .int .i64 ((k : Int) - 1) ∧ Lib.IsBuilder 42 5 W.heap.size W.heap.size (Lib.byteCells T) wq ∧ Below W.heap.size W wq ∧ Hid ((k = i ∧ T = []) ∨ (k < i ∧ T = Lib.decDigits (n / 1000000000 ^ k)))) (fun iv _ => (intOf iv + 1).toNat)
        case atStart => exact ⟨i, [], Nat.le_refl _, by simp, rfl, hbld0, hbq0, Lib.hid (.inl ⟨rfl, rfl⟩)⟩
        case round =>
          clear hbld0 hbq0
          obtain ⟨k, T, hk, hTl, rfl, hbld, hbq, HK⟩ := hrel
          have hszq := hbq.size
          rcases k with _ | k
          · have HT : Hid (T = Lib.decDigits n) := Lib.hid (by
              rcases HK.out with ⟨e, _⟩ | ⟨_, e⟩
              · omega
              · rw [e, Nat.pow_zero, Nat.div_one])
            have BS := Lib.hid (Tryz.Builder_String_any W.heap.size W.heap.size T wr hbld hszq)
            clear hbld
            go_wp2_with (go_at_call 22; refine BS.out.mono ?_; rintro e w7 ⟨rfl, hb7⟩)
            go_ret
            rw [HT.out]
            exact ⟨rfl, hbel.trans ((hbq.trans hb7).mono hsz)⟩
          · have hk1 : ((k + 1 : Nat) : Int) - 1 = (k : Int) := by omega
            rw [hk1]
            clear hk1
            have hki : k < (grps n i).length := by rw [grps_len]; omega
            obtain ⟨b, off, rfl, hbb, hcell⟩ := (HLG.out.below hbq).limb hki
            have hget : (grps n i)[k] = Ten.grp n k := by
              have := grps_at (v := n) (show k < i by omega)
              rw [List.getElem?_eq_getElem hki] at this
              exact Option.some.inj this
            rw [hget] at hcell
            have hgl := Ten.grp_lt n k
            have HTOP : Hid (k + 1 = i → Lib.decDigits (Ten.grp n k) = Lib.decDigits (n / 1000000000 ^ k)) := Lib.hid (fun e => Ten.grp_top (by rw [e]; exact HT0.out.1))
            have HLOW : Hid (k + 1 < i → Lib.decDigits (n / 1000000000 ^ k) = Lib.decDigits (n / 1000000000 ^ (k + 1)) ++ (List.replicate (9 - (Lib.decDigits (Ten.grp n k)).length) 48 ++ Lib.decDigits (Ten.grp n k))) := Lib.hid (fun e => Ten.grp_low (div_pos_of HT0.out.2 (by omega)))
            have HSH : Hid ((Lib.decDigits (n / 1000000000 ^ k)).length ≤ 10000) := Lib.hid (dec_short (Nat.div_le_self _ _) hvb.out)
            have hD := Ten.dec_len (k := 8) (show Ten.grp n k < 10 ^ 9 by simpa using hgl)
            have FU := Lib.hid (formatUint_any (Ten.grp n k) wr (by omega) (HTABW.out wr hbq))
            generalize Ten.grp n k = gq at *
            obtain ⟨D, hDe⟩ : ∃ D, D = Lib.decDigits gq := ⟨_, rfl⟩
            rw [← hDe] at HTOP HLOW hD FU
            clear hDe hget hki
            by_cases hlow : k + 1 < i
            · have HTT : Hid (T ++ (List.replicate (9 - D.length) 48 ++ D) = Lib.decDigits (n / 1000000000 ^ k)) := Lib.hid (by
                rcases HK.out with ⟨e, _⟩ | ⟨_, e⟩
                · omega
                · rw [HLOW.out hlow, e])
              clear HTOP HLOW HK
              go_wp2_with fail
              refine FU.out.mono ?_
              rintro e w6 ⟨rfl, hb6⟩
              have hbld6 := builder_below hbld hb6
              have hbq6 : Below W.heap.size W w6 := hbq.trans (hb6.mono hszq)
              have hsz6 := hbq6.size
              clear hbld hb6
              go_wp2_with fail
              have HTL : Hid ((T ++ (List.replicate (9 - D.length) 48 ++ D)).length ≤ 10000) := Lib.hid (by rw [HTT.out]; exact HSH.out)
              have hci : (9 : Int) - (D.length : Int) = ((9 - D.length : Nat) : Int) := by omega
              rw [hci]
              have RP := Lib.hid (Tryz.strings_Repeat ⟨#[48]⟩ (9 - D.length) w6 (by omega) (by show 1 * (9 - D.length) ≤ _; omega))
              rw [show (⟨#[48]⟩ : ByteArray).data.toList = [48] from rfl, rep_eq] at RP
              obtain ⟨Z, hZ⟩ : ∃ Z, Z = List.replicate (9 - D.length) (48 : UInt8) := ⟨_, rfl⟩
              have hZl : Z.length ≤ 9 := by rw [hZ, List.length_replicate]; omega
              rw [← hZ] at RP HTL HTT
              clear hZ hci
              refine RP.out.mono ?_
              rintro e w8 ⟨rfl, hb8⟩
              have hbld8 := builder_below hbld6 hb8
              have hbq8 : Below W.heap.size W w8 := hbq6.trans (hb8.mono hsz6)
              have hsz8 := hbq8.size
              have WS1 := Lib.hid (writeString_any W.heap.size W.heap.size _ ⟨Z.toArray⟩ w8 hbld8 (by rw [Lib.byteCells_length]; show T.length + Z.length ≤ _; omega) hsz8)
              clear hbld6 hb8 hbld8
              go_wp2_with fail
              refine WS1.out.mono ?_
              rintro e w9 ⟨rfl, hbd9, hb9⟩
              have hbld9 : Lib.IsBuilder 42 5 W.heap.size W.heap.size (Lib.byteCells (T ++ Z)) w9 := .inr (by rw [Lib.byteCells_append]; exact hbd9)
              have hbq9 : Below W.heap.size W w9 := hbq8.trans hb9
              have hsz9 := hbq9.size
              have WS2 := Lib.hid (writeString_any W.heap.size W.heap.size _ ⟨D.toArray⟩ w9 hbld9 (by rw [Lib.byteCells_length, List.length_append]; show T.length + Z.length + D.length ≤ _; omega) hsz9)
              clear hbd9 hb9 hbld9
              go_wp2_with (go_at_call 36; refine WS2.out.mono ?_; rintro e w7 ⟨rfl, hbd7, hb7⟩)
              go_roundw
              case rel => exact ⟨_, _, _, _, _, _, _, _, _, _, _, _, _, _, _, _, _, _, _, _, _, _, _, _, ⟨k, T ++ (Z ++ D), by omega, HTL.out, by go_num, .inr (by rw [← List.append_assoc, Lib.byteCells_append]; exact hbd7), hbq9.trans hb7, Lib.hid (.inr ⟨by omega, HTT.out⟩)⟩, rfl⟩
              case measure => first | (simp [intOf]; done) | (simp [intOf]; omega)
            · have HTT : Hid (T ++ D = Lib.decDigits (n / 1000000000 ^ k)) := Lib.hid (by
                rcases HK.out with ⟨_, e⟩ | ⟨h, _⟩
                · rw [e, List.nil_append]; exact HTOP.out (by omega)
                · omega)
              have HTL : Hid ((T ++ D).length ≤ 10000) := Lib.hid (by rw [HTT.out]; exact HSH.out)
              clear HTOP HLOW HK
              go_wp2_with fail
              refine FU.out.mono ?_
              rintro e w6 ⟨rfl, hb6⟩
              have hbld6 := builder_below hbld hb6
              have hbq6 : Below W.heap.size W w6 := hbq.trans (hb6.mono hszq)
              have hsz6 := hbq6.size
              have WS := Lib.hid (writeString_any W.heap.size W.heap.size _ ⟨D.toArray⟩ w6 hbld6 (by rw [Lib.byteCells_length]; show T.length + D.length ≤ _; omega) hsz6)
              clear hbld hb6 hbld6
              go_wp2_with (go_at_call 36; refine WS.out.mono ?_; rintro e w7 ⟨rfl, hbd7, hb7⟩)
              go_roundw
              case rel => exact ⟨_, _, _, _, _, _, _, _, _, _, _, _, _, _, _, _, _, _, _, _, _, _, _, _, ⟨k, T ++ D, by omega, HTL.out, by go_num, .inr (by rw [Lib.byteCells_append]; exact hbd7), hbq6.trans hb7, Lib.hid (.inr ⟨by omega, HTT.out⟩)⟩, rfl⟩
              case measure => first | (simp [intOf]; done) | (simp [intOf]; omega)
      · have hypos : 0 < (Nt.digs y).length := Nat.pos_of_ne_zero (fun e => hy0 (Nt.digs_nil_iff.1 (List.eq_nil_of_length_eq_zero e)))
        have hi2 : i < 1112 := rounds_le hvb.out (by rw [← H.out.1]; omega)
        have SH := Lib.hid (shorten_any w.heap.size cc 1000000000 (Nt.digs y) tl wr hblk (Nt.ok_digs y) (by omega) (by omega) (by omega))
        rw [Nt.val_digs] at SH
        have HGR : Hid (y % 1000000000 = Ten.grp n i) := Lib.hid (by rw [H.out.1]; rfl)
        rw [HGR.out] at SH
        have hgl := Ten.grp_lt n i
        have HNX : Hid (y / 1000000000 = n / 1000000000 ^ (i + 1) ∧ (i + 1 = 0 ∨ 0 < n / 1000000000 ^ (i + 1 - 1))) := Lib.hid ⟨by rw [H.out.1, Ten.div_next], .inr (by rw [Nat.add_sub_cancel, ← H.out.1]; omega)⟩
        have HLQ : Hid ((Nt.digs (y / 1000000000)).length ≤ 1000) := Lib.hid (Nat.le_trans (Nt.digs_len_le_of (Nat.div_le_self y _)) hyl)
        obtain ⟨gq, hgq⟩ : ∃ gq, gq = Ten.grp n i := ⟨_, rfl⟩
        have HNG : Hid (grps n (i + 1) = grps n i ++ [gq]) := Lib.hid (by rw [hgq]; exact grps_next n i)
        rw [← hgq] at SH hgl
        clear hgq hblk HGR
        go_wp2_with fail
        refine SH.out.mono ?_
        rintro e w3 ⟨cur, rfl, hblk3, HC, hgr3⟩
        have hbel3 : Below w.heap.size w w3 := hbel.grown hgr3 hsz (fun k hk => by injection hk with hk; omega)
        have hown3 : w3.ownsRow (w.heap.size + 1) 90 1 (.slice A2 i C2) i (U (grps n i)) := own_keep hown (fun g hg hgs => hgr3.block g hgs (by intro e; injection e with e; omega))
        have hsz3 := hbel3.size
        have hlt3 := hblk3.lt
        clear hown hgr3
        go_wp2_with (at_builtin; refine wpList_append_own _ rfl _ _ 22 rfl (w.heap.size + 1) 90 i0 (.int .u32 0) 1 4 Tryz.underlying22 hi hz0 hz1 hz2 rfl (by decide) _ _ _ rfl (hown3.alloc _) ⟨_, 0, none⟩ 1 1 [.int .u32 (gq : Int)] rfl rfl (cell_one_new _ _ _) (by intro u hu; simp only [List.mem_singleton] at hu; subst hu; rfl) (by unfold maxLen; omega) (by omega) (by simp; omega) ?_; intro v4 w4 hown4 hgrow4 hnn4)
        have hb4 : Below w.heap.size w w4 := (hbel3.alloc hsz3 _).grown hgrow4 (by simp; omega) (fun k hk => by have := (hown3.lt k hk).1; omega)
        have hblk4 : Blk w4 w.heap.size 90 (U cur ++ tl) := (hblk3.alloc _).grown hgrow4 (by intro e; have := (hown3.lt _ e.symm).1; omega)
        have hcy : cur.length = (Nt.digs y).length := HC.out.1
        have hl4 : Lies w4 w4.heap.size (some ⟨w.heap.size, 0, none⟩) (U cur) := by
          have := (hblk4.lies).take cur.length
          rwa [List.take_append_of_le_length (by rw [U_len]; omega), List.take_of_length_le (by rw [U_len]; omega)] at this
        have TR := Lib.hid (trim_any (some ⟨w.heap.size, 0, none⟩) cc _ cur w4 hl4 HC.out.2.1 (by omega) (by omega))
        rw [HC.out.2.2, hcy] at TR
        have hblk5 : ∃ tl2, Blk w4 w.heap.size 90 (U (Nt.digs (y / 1000000000)) ++ tl2) := ⟨U (cur.drop (Nt.digs (Nt.val cur)).length) ++ tl, by
          have e : U cur = U (Nt.digs (y / 1000000000)) ++ U (cur.drop (Nt.digs (Nt.val cur)).length) := by
            have e0 : cur = Nt.digs (Nt.val cur) ++ cur.drop (Nt.digs (Nt.val cur)).length := by
              conv => lhs; rw [← List.take_append_drop (Nt.digs (Nt.val cur)).length cur, Nt.take_digs HC.out.2.1]
            have e1 := congrArg U e0
            rw [show U (Nt.digs (Nt.val cur) ++ cur.drop (Nt.digs (Nt.val cur)).length) = U (Nt.digs (Nt.val cur)) ++ U (cur.drop (Nt.digs (Nt.val cur)).length) from List.map_append] at e1
            rw [← HC.out.2.2]
            exact e1
          rw [← List.append_assoc, ← e]; exact hblk4⟩
        obtain ⟨tl2, hblk5⟩ := hblk5
        have hlq := HLQ.out
        clear hl4 hblk4 hblk3 HC HLQ hcy
        obtain ⟨A4, C4, rfl, hD1, hD2⟩ := own_slice hown4
        refine TR.out.mono ?_
        rintro e w5 ⟨rfl, rfl⟩
        go_wp2_with fail
        refine ⟨⟨i + 1, y / 1000000000, _, tl2, by omega, hlq, Nat.le_refl _, hlq, rfl, hblk5, ?_, hb4, HNX⟩, by simp [sliceLen]; omega⟩
        rw [HNG.out]
        simpa [U] using hown4
end Go.Proofs.YtceplkpjnebnfaaGreatDoor
