/-
  Texts of this proof, joined (by wip/bin/bundle.py): GlyMath, TokMath, Tok1, GlyMath2, TokMath2, ArrMath, Arr, Same1, Tok2, GlyMath3, TreeMath, TreeMath2.
-/
import Derived.Test.YtceplkpjnebnfaaGreatDoorM4
import GoSem.Core.Utf8
import Derived.Deep.QuietTactic
import Derived.BigQuiet
import Derived.LoopTactic
import Derived.Outline
import Derived.Lib.Strings
/-
  Characters and bytes, plain: how one is read of bytes, by Go's range and by the document's guess.
-/
namespace Gl
open Go
/-- A byte, as a number. -/
def by_ (s : ByteArray) (i : Nat) : Nat := (s.get! i).toNat
theorem by_lt (s : ByteArray) (i : Nat) : by_ s i < 256 := by unfold by_; exact UInt8.toNat_lt _
/-- May a number be a character's? -/
def may (c : Int) : Bool := decide (0 ≤ c) && decide (c ≤ 1114111) && (decide (c < 55296) || decide (57343 < c))
theorem may_valid (c : Nat) : Utf8.valid (c : Int) = may (c : Int) := by
  unfold Utf8.valid may
  rw [Bool.eq_iff_iff]
  simp only [Bool.or_eq_true, Bool.and_eq_true, decide_eq_true_eq]
  omega
/-- How many bytes a first byte promises, and what it brings; none: it begins nothing. -/
def first (b : Nat) : Option (Nat × Nat) := if 240 ≤ b then some (b - 240, 4) else if 224 ≤ b then some (b - 224, 3) else if 192 ≤ b then some (b - 192, 2) else if 128 ≤ b then none else some (b, 1)
/-- The document's guess from the i-th byte on: so many are left to read. -/
def more (s : ByteArray) (c : Nat) : Nat → Nat → Option Nat
  | _, 0 => some c
  | i, k + 1 => if by_ s i < 128 ∨ 191 < by_ s i then none else more s (64 * c + by_ s i - 128) (i + 1) k
def guess (s : ByteArray) (at_ : Nat) : Option (Nat × Nat) :=
  match first (by_ s at_) with
  | none => none
  | some (c, n) => if s.size - at_ < n then none else (more s c (at_ + 1) (n - 1)).map fun c => (c, n)
/-- How many bytes a character has. -/
def wide (c : Nat) : Nat := if c < 128 then 1 else if c < 2048 then 2 else if c < 65536 then 3 else 4
/-- A character's bytes. -/
def one (c : Nat) : List Nat :=
  if c < 128 then [c] else if c < 2048 then [192 + c / 64, 128 + c % 64] else if c < 65536 then [224 + c / 4096, 128 + c / 64 % 64, 128 + c % 64] else [240 + c / 262144, 128 + c / 4096 % 64, 128 + c / 64 % 64, 128 + c % 64]
theorem one_len (c : Nat) : (one c).length = wide c := by unfold one wide; split <;> (try rfl); split <;> (try rfl); split <;> rfl
/-- The character that is read, by Go's range: none, where it is none's. -/
def read (s : ByteArray) (at_ : Nat) : Option (Nat × Nat) := if Utf8.decode s at_ = (Utf8.runeError, 1) then none else some (Utf8.decode s at_)
/-- The document's character. -/
def refRead (s : ByteArray) (at_ : Nat) : Option (Nat × Nat) :=
  match guess s at_ with
  | none => none
  | some (c, n) => if may (c : Int) = true ∧ one c = (List.range n).map (fun k => by_ s (at_ + k)) then some (c, n) else none

theorem more1 {s : ByteArray} {c i : Nat} : more s c i 1 = if by_ s i < 128 ∨ 191 < by_ s i then none else some (64 * c + by_ s i - 128) := rfl
set_option maxRecDepth 100000 in
theorem decode_eq (s : ByteArray) (i : Nat) : Utf8.decode s i =
    (if by_ s i < 128 then (by_ s i, 1)
    else if by_ s i / 32 = 6 ∧ i + 1 < s.size ∧ by_ s (i + 1) / 64 = 2 then
      (if 128 ≤ by_ s i % 32 * 64 + by_ s (i + 1) % 64 then (by_ s i % 32 * 64 + by_ s (i + 1) % 64, 2) else (Utf8.runeError, 1))
    else if by_ s i / 16 = 14 ∧ (i + 1 < s.size ∧ by_ s (i + 1) / 64 = 2) ∧ (i + 2 < s.size ∧ by_ s (i + 2) / 64 = 2) then
      (if 2048 ≤ by_ s i % 16 * 4096 + by_ s (i + 1) % 64 * 64 + by_ s (i + 2) % 64 ∧ may ((by_ s i % 16 * 4096 + by_ s (i + 1) % 64 * 64 + by_ s (i + 2) % 64 : Nat) : Int) = true then (by_ s i % 16 * 4096 + by_ s (i + 1) % 64 * 64 + by_ s (i + 2) % 64, 3) else (Utf8.runeError, 1))
    else if by_ s i / 8 = 30 ∧ (i + 1 < s.size ∧ by_ s (i + 1) / 64 = 2) ∧ (i + 2 < s.size ∧ by_ s (i + 2) / 64 = 2) ∧ (i + 3 < s.size ∧ by_ s (i + 3) / 64 = 2) then
      (if 65536 ≤ by_ s i % 8 * 262144 + by_ s (i + 1) % 64 * 4096 + by_ s (i + 2) % 64 * 64 + by_ s (i + 3) % 64 ∧ may ((by_ s i % 8 * 262144 + by_ s (i + 1) % 64 * 4096 + by_ s (i + 2) % 64 * 64 + by_ s (i + 3) % 64 : Nat) : Int) = true then (by_ s i % 8 * 262144 + by_ s (i + 1) % 64 * 4096 + by_ s (i + 2) % 64 * 64 + by_ s (i + 3) % 64, 4) else (Utf8.runeError, 1))
    else (Utf8.runeError, 1)) := by
  have e0 : ∀ k, (s.get! (i + k)).toNat = by_ s (i + k) := fun _ => rfl
  have e1 : (s.get! i).toNat = by_ s i := rfl
  unfold Utf8.decode
  simp only [e0, Nat.add_zero, e1]
  generalize by_ s i = b0
  generalize by_ s (i + 1) = b1
  generalize by_ s (i + 2) = b2
  generalize by_ s (i + 3) = b3
  simp only [may_valid, Bool.and_eq_true, beq_iff_eq, decide_eq_true_eq, ge_iff_le, and_assoc]

theorem first_lt {b : Nat} (h : b < 128) : first b = some (b, 1) := by unfold first; rw [if_neg (by omega), if_neg (by omega), if_neg (by omega), if_neg (by omega)]
theorem first_mid {b : Nat} (h : 128 ≤ b) (h2 : b < 192) : first b = none := by unfold first; rw [if_neg (by omega), if_neg (by omega), if_neg (by omega), if_pos h]
theorem first_2 {b : Nat} (h : 192 ≤ b) (h2 : b < 224) : first b = some (b - 192, 2) := by unfold first; rw [if_neg (by omega), if_neg (by omega), if_pos h]
theorem first_3 {b : Nat} (h : 224 ≤ b) (h2 : b < 240) : first b = some (b - 224, 3) := by unfold first; rw [if_neg (by omega), if_pos h]
theorem first_4 {b : Nat} (h : 240 ≤ b) : first b = some (b - 240, 4) := by unfold first; rw [if_pos h]
theorem may_small {c : Nat} (h : c < 55296) : may (c : Int) = true := by unfold may; simp; omega

theorem fin_none {s : ByteArray} {i : Nat} (hg : guess s i = none) (hd : Utf8.decode s i = (Utf8.runeError, 1)) : refRead s i = read s i := by
  unfold refRead read; rw [hg, hd, if_pos rfl]
theorem fin_some {s : ByteArray} {i c n : Nat} (hg : guess s i = some (c, n)) (hd : Utf8.decode s i = (c, n)) (hm : may (c : Int) = true) (ho : one c = (List.range n).map (fun k => by_ s (i + k))) (hne : n ≠ 1 ∨ c ≠ 65533) : refRead s i = read s i := by
  unfold refRead read
  rw [hg, hd]
  dsimp only
  rw [if_pos ⟨hm, ho⟩, if_neg]
  intro h
  injection h with h1 h2
  have hE : Utf8.runeError = 65533 := rfl
  omega
theorem fin_bad {s : ByteArray} {i c n : Nat} (hg : guess s i = some (c, n)) (hd : Utf8.decode s i = (Utf8.runeError, 1)) (hb : ¬(may (c : Int) = true ∧ one c = (List.range n).map (fun k => by_ s (i + k)))) : refRead s i = read s i := by
  unfold refRead read
  rw [hg, hd, if_pos rfl]
  dsimp only
  rw [if_neg hb]
theorem guess_of {s : ByteArray} {i c n : Nat} (hf : first (by_ s i) = some (c, n)) : guess s i = if s.size - i < n then none else (more s c (i + 1) (n - 1)).map fun c => (c, n) := by
  unfold guess; rw [hf]
theorem more2 {s : ByteArray} {c i : Nat} : more s c i 2 = if by_ s i < 128 ∨ 191 < by_ s i then none else if by_ s (i + 1) < 128 ∨ 191 < by_ s (i + 1) then none else some (64 * (64 * c + by_ s i - 128) + by_ s (i + 1) - 128) := rfl
theorem more3 {s : ByteArray} {c i : Nat} : more s c i 3 = if by_ s i < 128 ∨ 191 < by_ s i then none else if by_ s (i + 1) < 128 ∨ 191 < by_ s (i + 1) then none else if by_ s (i + 2) < 128 ∨ 191 < by_ s (i + 2) then none else some (64 * (64 * (64 * c + by_ s i - 128) + by_ s (i + 1) - 128) + by_ s (i + 2) - 128) := rfl
theorem wide_not {s : ByteArray} {i c n : Nat} (h : wide c ≠ n) : ¬(may (c : Int) = true ∧ one c = (List.range n).map (fun k => by_ s (i + k))) := by
  rintro ⟨-, h2⟩
  have := congrArg List.length h2
  rw [one_len] at this
  simp only [List.length_map, List.length_range] at this
  exact h this
theorem range2 {s : ByteArray} {i : Nat} : (List.range 2).map (fun k => by_ s (i + k)) = [by_ s i, by_ s (i + 1)] := rfl
theorem range3 {s : ByteArray} {i : Nat} : (List.range 3).map (fun k => by_ s (i + k)) = [by_ s i, by_ s (i + 1), by_ s (i + 2)] := rfl
theorem range4 {s : ByteArray} {i : Nat} : (List.range 4).map (fun k => by_ s (i + k)) = [by_ s i, by_ s (i + 1), by_ s (i + 2), by_ s (i + 3)] := rfl
/-- The document's character is Go's. -/
theorem refRead_eq (s : ByteArray) (i : Nat) (hi : i < s.size) : refRead s i = read s i := by
  have h0 := by_lt s i
  have h1 := by_lt s (i + 1)
  have h2 := by_lt s (i + 2)
  have h3 := by_lt s (i + 3)
  have hd := decode_eq s i
  by_cases a : by_ s i < 128
  · rw [if_pos a] at hd
    refine fin_some (by rw [guess_of (first_lt a), if_neg (by omega)]; rfl) hd (may_small (by omega)) ?_ (.inr (by omega))
    unfold one; rw [if_pos a]; rfl
  · rw [if_neg a] at hd
    by_cases b : by_ s i < 192
    · rw [if_neg (by omega), if_neg (by omega), if_neg (by omega)] at hd
      refine fin_none ?_ hd
      unfold guess; rw [first_mid (by omega) b]
    · by_cases c : by_ s i < 224
      · have hg := guess_of (first_2 (by omega) c)
        by_cases d : i + 1 < s.size ∧ by_ s (i + 1) / 64 = 2
        · rw [if_pos (And.intro (by omega) d)] at hd
          obtain ⟨d1, d2⟩ := d
          rw [if_neg (by omega), show 2 - 1 = 1 from rfl, more1, if_neg (by omega), Option.map_some] at hg
          have ec : 64 * (by_ s i - 192) + by_ s (i + 1) - 128 = by_ s i % 32 * 64 + by_ s (i + 1) % 64 := by omega
          rw [ec] at hg
          obtain ⟨x, hx⟩ : ∃ x, x = by_ s i % 32 * 64 + by_ s (i + 1) % 64 := ⟨_, rfl⟩
          rw [← hx] at hg hd
          by_cases f : 128 ≤ x
          · rw [if_pos f] at hd
            refine fin_some hg hd (may_small (by omega)) ?_ (.inl (by omega))
            rw [range2]
            unfold one
            rw [if_neg (by omega), if_pos (by omega)]
            simp only [List.cons.injEq, and_true]
            omega
          · rw [if_neg f] at hd
            refine fin_bad hg hd (wide_not ?_)
            unfold wide
            rw [if_pos (by omega)]
            omega
        · rw [if_neg (fun h => d h.2), if_neg (by omega), if_neg (by omega)] at hd
          refine fin_none ?_ hd
          rw [hg]
          by_cases e : s.size - i < 2
          · rw [if_pos e]
          · rw [if_neg e, show 2 - 1 = 1 from rfl, more1, if_pos (by omega)]; rfl
      · by_cases c3 : by_ s i < 240
        · have hg := guess_of (first_3 (by omega) c3)
          rw [if_neg (by omega)] at hd
          by_cases d : (i + 1 < s.size ∧ by_ s (i + 1) / 64 = 2) ∧ (i + 2 < s.size ∧ by_ s (i + 2) / 64 = 2)
          · rw [if_pos (And.intro (by omega) d)] at hd
            obtain ⟨⟨d1, d2⟩, d3, d4⟩ := d
            rw [if_neg (by omega), show 3 - 1 = 2 from rfl, more2, show i + 1 + 1 = i + 2 from rfl, if_neg (by omega), if_neg (by omega), Option.map_some] at hg
            have ec : 64 * (64 * (by_ s i - 224) + by_ s (i + 1) - 128) + by_ s (i + 2) - 128 = by_ s i % 16 * 4096 + by_ s (i + 1) % 64 * 64 + by_ s (i + 2) % 64 := by omega
            rw [ec] at hg
            obtain ⟨x, hx⟩ : ∃ x, x = by_ s i % 16 * 4096 + by_ s (i + 1) % 64 * 64 + by_ s (i + 2) % 64 := ⟨_, rfl⟩
            rw [← hx] at hg hd
            by_cases f : 2048 ≤ x ∧ may (x : Int) = true
            · rw [if_pos f] at hd
              refine fin_some hg hd f.2 ?_ (.inl (by omega))
              rw [range3]
              unfold one
              rw [if_neg (by omega), if_neg (by omega), if_pos (by omega)]
              simp only [List.cons.injEq, and_true]
              omega
            · rw [if_neg f] at hd
              by_cases g : 2048 ≤ x
              · exact fin_bad hg hd (fun h => f ⟨g, h.1⟩)
              · refine fin_bad hg hd (wide_not ?_)
                unfold wide
                by_cases q : x < 128
                · rw [if_pos q]; omega
                · rw [if_neg q, if_pos (by omega)]; omega
          · rw [if_neg (fun h => d h.2), if_neg (by omega)] at hd
            refine fin_none ?_ hd
            rw [hg]
            by_cases e : s.size - i < 3
            · rw [if_pos e]
            · rw [if_neg e, show 3 - 1 = 2 from rfl, more2]
              by_cases g : by_ s (i + 1) < 128 ∨ 191 < by_ s (i + 1)
              · rw [if_pos g]; rfl
              · rw [if_neg g, if_pos (by rw [show i + 1 + 1 = i + 2 from rfl]; omega)]; rfl
        · have hg := guess_of (first_4 (show 240 ≤ by_ s i by omega))
          rw [if_neg (by omega), if_neg (by omega)] at hd
          by_cases d : (i + 1 < s.size ∧ by_ s (i + 1) / 64 = 2) ∧ (i + 2 < s.size ∧ by_ s (i + 2) / 64 = 2) ∧ (i + 3 < s.size ∧ by_ s (i + 3) / 64 = 2)
          · obtain ⟨⟨d1, d2⟩, ⟨d3, d4⟩, d5, d6⟩ := d
            rw [if_neg (by omega), show 4 - 1 = 3 from rfl, more3, show i + 1 + 1 = i + 2 from rfl, show i + 1 + 2 = i + 3 from rfl, if_neg (by omega), if_neg (by omega), if_neg (by omega), Option.map_some] at hg
            have ec : 64 * (64 * (64 * (by_ s i - 240) + by_ s (i + 1) - 128) + by_ s (i + 2) - 128) + by_ s (i + 3) - 128 = (by_ s i - 240) * 262144 + by_ s (i + 1) % 64 * 4096 + by_ s (i + 2) % 64 * 64 + by_ s (i + 3) % 64 := by omega
            rw [ec] at hg
            by_cases k : by_ s i / 8 = 30
            · rw [if_pos (And.intro k ⟨⟨d1, d2⟩, ⟨d3, d4⟩, d5, d6⟩)] at hd
              have ek : by_ s i - 240 = by_ s i % 8 := by omega
              rw [ek] at hg
              obtain ⟨x, hx⟩ : ∃ x, x = by_ s i % 8 * 262144 + by_ s (i + 1) % 64 * 4096 + by_ s (i + 2) % 64 * 64 + by_ s (i + 3) % 64 := ⟨_, rfl⟩
              rw [← hx] at hg hd
              by_cases f : 65536 ≤ x ∧ may (x : Int) = true
              · rw [if_pos f] at hd
                refine fin_some hg hd f.2 ?_ (.inl (by omega))
                rw [range4]
                unfold one
                rw [if_neg (by omega), if_neg (by omega), if_neg (by omega)]
                simp only [List.cons.injEq, and_true]
                omega
              · rw [if_neg f] at hd
                by_cases g : 65536 ≤ x
                · exact fin_bad hg hd (fun h => f ⟨g, h.1⟩)
                · refine fin_bad hg hd (wide_not ?_)
                  unfold wide
                  by_cases q : x < 128
                  · rw [if_pos q]; omega
                  · by_cases q2 : x < 2048
                    · rw [if_neg q, if_pos q2]; omega
                    · rw [if_neg q, if_neg q2, if_pos (by omega)]; omega
            · rw [if_neg (fun h => k h.1)] at hd
              refine fin_bad hg hd ?_
              rintro ⟨hm, -⟩
              unfold may at hm
              simp only [Bool.and_eq_true, decide_eq_true_eq] at hm
              omega
          · rw [if_neg (fun h => d h.2)] at hd
            refine fin_none ?_ hd
            rw [hg]
            by_cases e : s.size - i < 4
            · rw [if_pos e]
            · rw [if_neg e, show 4 - 1 = 3 from rfl, more3, show i + 1 + 1 = i + 2 from rfl, show i + 1 + 2 = i + 3 from rfl]
              by_cases g : by_ s (i + 1) < 128 ∨ 191 < by_ s (i + 1)
              · rw [if_pos g]; rfl
              · rw [if_neg g]
                by_cases g2 : by_ s (i + 2) < 128 ∨ 191 < by_ s (i + 2)
                · rw [if_pos g2]; rfl
                · rw [if_neg g2, if_pos (by omega)]; rfl
end Gl

/-
  Tokens, plain: what the document cuts a line's characters into.
-/
namespace Tk
open Go
def funs : List Int := [0x2B, 0x2D, 0xD7, 0xF7, 0x2308, 0x230A, 0x7C, 0x2A, 0x21, 0x7E, 0x3C, 0x2264, 0x3D, 0x2265, 0x3E, 0x2260, 0x2227, 0x2228, 0x2374, 0x2C, 0x236A, 0x233D, 0x2296, 0x2349, 0x2191, 0x2193, 0x2282, 0x2283, 0x2261, 0x2262, 0x2373, 0x220A, 0x222A, 0x2229, 0x2378, 0x234B, 0x2352, 0x22A2, 0x22A3]
def opers : List Int := [0x2F, 0x233F, 0x5C, 0x2340, 0xA8, 0x2368, 0x2364, 0x2363, 0x2218, 0x2E]
def marks : List Int := [0x28, 0x29, 0x5B, 0x5D, 0x7B, 0x7D, 0x3B, 0x3A, 0x22C4, 0x2190, 0x237A, 0x2375, 0x2207, 0x2395, 0x235E, 0x27, 0x235D]
/-- The class of a character. -/
def cls (c : Int) : Int :=
  if c = 32 ∨ c = 9 then 1
  else if 97 ≤ c ∧ c ≤ 122 ∨ 65 ≤ c ∧ c ≤ 90 ∨ c = 95 then 2
  else if 48 ≤ c ∧ c ≤ 57 ∨ c = 175 then 3
  else if c ∈ funs then 4 else if c ∈ opers then 5 else if c ∈ marks then 6 else 0
structure Tok where
  kind : Int
  n : Rt.Nm
  l : List Int
  s : List UInt8
  c : Int
  at_ : Nat
def none_ : Tok := ⟨0, Rt.none_, [], [], 0, 0⟩
/-- A character's bytes. -/
def enc1 (c : Int) : List UInt8 := (Gl.one c.toNat).map UInt8.ofNat
def enc (l : List Int) : List UInt8 := l.flatMap enc1
def digit (c : Int) : Bool := decide (48 ≤ c) && decide (c ≤ 57)
def word (c : Int) : Bool := digit c || (cls c == 2)
/-- How many that may stand in a name, or in a number, stand from a place on. -/
def words (l : List Int) (i : Nat) : Nat := ((l.drop i).takeWhile word).length
def figures (l : List Int) (i : Nat) : Nat := ((l.drop i).takeWhile digit).length
/-- How long a number is that begins at a place: none: there is none. -/
def numLen (l : List Int) (i : Nat) : Option Nat :=
  let n := if l.getD i (-1) = 175 then 1 else 0
  let k := figures l (i + n)
  if k = 0 then none
  else
    let m := n + k
    let e := if (l.getD (i + m) (-1) = 114 ∨ l.getD (i + m) (-1) = 46) ∧ 0 < figures l (i + m + 1) then m + 1 + figures l (i + m + 1) else m
    if word (l.getD (i + e) (-1)) = true ∨ l.getD (i + e) (-1) = 175 then none else some e
/-- The characters of a text in quotes, and how many characters it has; so many are left to look at. -/
def quote (l : List Int) : Nat → Nat → List Int → Option (List Int × Nat)
  | 0, _, _ => none
  | f + 1, k, out =>
    if l.length ≤ k then none
    else if l.getD k (-1) ≠ 39 then quote l f (k + 1) (out ++ [l.getD k (-1)])
    else if l.getD (k + 1) (-1) ≠ 39 then some (out, k + 1)
    else quote l f (k + 2) (out ++ [39])
/-- The token that begins at a place, how many characters it has, and the error. -/
def read (l : List Int) (i : Nat) : Tok × Nat × Int :=
  let c := l.getD i (-1)
  if cls c = 3 then
    match numLen l i with
    | none => (none_, 0, 1)
    | some n =>
      let r := Dg.parse (enc ((l.drop i).take n))
      if r.2 = 0 then (⟨0, r.1, [], [], 0, i⟩, n, 0) else (none_, 0, r.2)
  else if cls c = 2 then
    let n := words l i
    if 16 < n then (none_, 0, 1) else (⟨if c ≤ 90 then 3 else 2, Rt.none_, [], enc ((l.drop i).take n), 0, i⟩, n, 0)
  else if c = 39 then
    match quote l (l.length + 1) (i + 1) [] with
    | none => (none_, 0, 1)
    | some (t, e) => (⟨1, Rt.none_, t, [], 0, i⟩, e - i, 0)
  else if c = 9109 ∨ c = 9054 then
    let n := words l (i + 1)
    let d := l.getD (i + 1) (-1)
    if n = 1 ∧ 48 ≤ d ∧ d ≤ 55 then (⟨if c = 9054 then 5 else 4, Rt.none_, [], [], d - 48, i⟩, 2, 0)
    else if c = 9109 ∧ n = 2 ∧ d = 68 ∧ l.getD (i + 2) (-1) = 67 then (⟨6, Rt.none_, [], [], 0, i⟩, 3, 0)
    else if c = 9109 ∧ n = 2 ∧ d = 85 ∧ l.getD (i + 2) (-1) = 80 then (⟨6, Rt.none_, [], [], 1, i⟩, 3, 0)
    else (none_, 0, 1)
  else if cls c = 0 then (none_, 0, 1)
  else (⟨7, Rt.none_, [], [], c, i⟩, 1, 0)
end Tk

/-
  glyph.function, glyph.Class: a character's class. (Printed by wip/bin/gen_tok1.py.)
-/
namespace Go.Proofs.YtceplkpjnebnfaaGreatDoor
open Go.RowKit
set_option maxHeartbeats 4000000
set_option maxRecDepth 100000
set_option linter.unusedVariables false

theorem ne_of_not_mem {c k : Int} {l : List Int} (h : ¬ c ∈ l) (hk : k ∈ l) : (c == k) = false := by
  rw [beq_eq_false_iff_ne]; rintro rfl; exact h hk
theorem function_any (c : Int) (w : World) :
    Calls Tryz.prog 80 #[.int .i64 c] w fun e w' => e = .returned (.bool (decide (c ∈ Tk.funs))) ∧ w = w' := by
  by_cases h : c ∈ Tk.funs
  · rw [decide_eq_true h]
    unfold Tk.funs at h
    simp only [List.mem_cons, List.not_mem_nil, or_false] at h
    rcases h with rfl | rfl | rfl | rfl | rfl | rfl | rfl | rfl | rfl | rfl | rfl | rfl | rfl | rfl | rfl | rfl | rfl | rfl | rfl | rfl | rfl | rfl | rfl | rfl | rfl | rfl | rfl | rfl | rfl | rfl | rfl | rfl | rfl | rfl | rfl | rfl | rfl | rfl | rfl
    all_goals
      go_enter Tryz.func80, Tryz.ntmps80
      go_wp2_with fail
      go_ret
      exact ⟨rfl, rfl⟩
  · rw [decide_eq_false h]
    have q43 : (c == 43) = false := ne_of_not_mem h (by decide)
    have q45 : (c == 45) = false := ne_of_not_mem h (by decide)
    have q215 : (c == 215) = false := ne_of_not_mem h (by decide)
    have q247 : (c == 247) = false := ne_of_not_mem h (by decide)
    have q8968 : (c == 8968) = false := ne_of_not_mem h (by decide)
    have q8970 : (c == 8970) = false := ne_of_not_mem h (by decide)
    have q124 : (c == 124) = false := ne_of_not_mem h (by decide)
    have q42 : (c == 42) = false := ne_of_not_mem h (by decide)
    have q33 : (c == 33) = false := ne_of_not_mem h (by decide)
    have q126 : (c == 126) = false := ne_of_not_mem h (by decide)
    have q60 : (c == 60) = false := ne_of_not_mem h (by decide)
    have q8804 : (c == 8804) = false := ne_of_not_mem h (by decide)
    have q61 : (c == 61) = false := ne_of_not_mem h (by decide)
    have q8805 : (c == 8805) = false := ne_of_not_mem h (by decide)
    have q62 : (c == 62) = false := ne_of_not_mem h (by decide)
    have q8800 : (c == 8800) = false := ne_of_not_mem h (by decide)
    have q8743 : (c == 8743) = false := ne_of_not_mem h (by decide)
    have q8744 : (c == 8744) = false := ne_of_not_mem h (by decide)
    have q9076 : (c == 9076) = false := ne_of_not_mem h (by decide)
    have q44 : (c == 44) = false := ne_of_not_mem h (by decide)
    have q9066 : (c == 9066) = false := ne_of_not_mem h (by decide)
    have q9021 : (c == 9021) = false := ne_of_not_mem h (by decide)
    have q8854 : (c == 8854) = false := ne_of_not_mem h (by decide)
    have q9033 : (c == 9033) = false := ne_of_not_mem h (by decide)
    have q8593 : (c == 8593) = false := ne_of_not_mem h (by decide)
    have q8595 : (c == 8595) = false := ne_of_not_mem h (by decide)
    have q8834 : (c == 8834) = false := ne_of_not_mem h (by decide)
    have q8835 : (c == 8835) = false := ne_of_not_mem h (by decide)
    have q8801 : (c == 8801) = false := ne_of_not_mem h (by decide)
    have q8802 : (c == 8802) = false := ne_of_not_mem h (by decide)
    have q9075 : (c == 9075) = false := ne_of_not_mem h (by decide)
    have q8714 : (c == 8714) = false := ne_of_not_mem h (by decide)
    have q8746 : (c == 8746) = false := ne_of_not_mem h (by decide)
    have q8745 : (c == 8745) = false := ne_of_not_mem h (by decide)
    have q9080 : (c == 9080) = false := ne_of_not_mem h (by decide)
    have q9035 : (c == 9035) = false := ne_of_not_mem h (by decide)
    have q9042 : (c == 9042) = false := ne_of_not_mem h (by decide)
    have q8866 : (c == 8866) = false := ne_of_not_mem h (by decide)
    have q8867 : (c == 8867) = false := ne_of_not_mem h (by decide)
    clear h
    go_enter Tryz.func80, Tryz.ntmps80
    go_wp2_with fail
    go_ret
    exact ⟨rfl, rfl⟩

theorem cls_oper {c : Int} (h : c ∈ Tk.opers) : Tk.cls c = 5 := by
  unfold Tk.opers at h
  simp only [List.mem_cons, List.not_mem_nil, or_false] at h
  rcases h with rfl | rfl | rfl | rfl | rfl | rfl | rfl | rfl | rfl | rfl <;> decide
theorem cls_mark {c : Int} (h : c ∈ Tk.marks) : Tk.cls c = 6 := by
  unfold Tk.marks at h
  simp only [List.mem_cons, List.not_mem_nil, or_false] at h
  rcases h with rfl | rfl | rfl | rfl | rfl | rfl | rfl | rfl | rfl | rfl | rfl | rfl | rfl | rfl | rfl | rfl | rfl <;> decide
theorem cls_fun {c : Int} (h : c ∈ Tk.funs) : Tk.cls c = 4 := by
  unfold Tk.funs at h
  simp only [List.mem_cons, List.not_mem_nil, or_false] at h
  rcases h with rfl | rfl | rfl | rfl | rfl | rfl | rfl | rfl | rfl | rfl | rfl | rfl | rfl | rfl | rfl | rfl | rfl | rfl | rfl | rfl | rfl | rfl | rfl | rfl | rfl | rfl | rfl | rfl | rfl | rfl | rfl | rfl | rfl | rfl | rfl | rfl | rfl | rfl | rfl <;> decide

theorem class_any (c : Int) (w : World) :
    Calls Tryz.prog 51 #[.int .i64 c] w fun e w' => e = .returned (.int .i64 (Tk.cls c)) ∧ w = w' := by
  by_cases h1 : c = 32 ∨ c = 9
  · have E : Hid (Tk.cls c = 1) := Lib.hid (by unfold Tk.cls; rw [if_pos h1])
    rcases h1 with rfl | rfl
    all_goals
      go_enter Tryz.func51, Tryz.ntmps51
      go_wp2_with fail
      go_ret
      exact ⟨ret_int E.out.symm, rfl⟩

  · have q32 : (c == 32) = false := beq_eq_false_iff_ne.2 (by omega)
    have q9 : (c == 9) = false := beq_eq_false_iff_ne.2 (by omega)
    by_cases h2 : 97 ≤ c ∧ c ≤ 122 ∨ 65 ≤ c ∧ c ≤ 90 ∨ c = 95
    · have E : Hid (Tk.cls c = 2) := Lib.hid (by unfold Tk.cls; rw [if_neg h1, if_pos h2])
      clear h1
      by_cases k1 : 97 ≤ c ∧ c ≤ 122
      · obtain ⟨a1, a2⟩ := k1
        clear h2
        go_enter Tryz.func51, Tryz.ntmps51
        go_wp2_with fail
        go_ret
        exact ⟨ret_int E.out.symm, rfl⟩

      · by_cases k2 : 65 ≤ c ∧ c ≤ 90
        · obtain ⟨a1, a2⟩ := k2
          have a3 : decide (97 ≤ c) = false := decide_eq_false (by omega)
          clear h2 k1
          go_enter Tryz.func51, Tryz.ntmps51
          go_wp2_with fail
          go_ret
          exact ⟨ret_int E.out.symm, rfl⟩

        · obtain rfl : c = 95 := by omega
          clear h2 k1 k2
          go_enter Tryz.func51, Tryz.ntmps51
          go_wp2_with fail
          go_ret
          exact ⟨ret_int E.out.symm, rfl⟩

    · have HL : Hid (¬ (97 ≤ c ∧ c ≤ 122 ∨ 65 ≤ c ∧ c ≤ 90 ∨ c = 95)) := Lib.hid h2
      by_cases h3 : 48 ≤ c ∧ c ≤ 57 ∨ c = 175
      · have E : Hid (Tk.cls c = 3) := Lib.hid (by unfold Tk.cls; rw [if_neg h1, if_neg h2, if_pos h3])
        clear h1
        by_cases k1 : c = 175
        · subst k1
          clear h2 h3
          go_enter Tryz.func51, Tryz.ntmps51
          go_wp2_with fail
          go_ret
          exact ⟨ret_int E.out.symm, rfl⟩

        · obtain ⟨a1, a2⟩ : 48 ≤ c ∧ c ≤ 57 := by omega
          have a3 : decide (97 ≤ c) = false := decide_eq_false (by omega)
          have a4 : decide (65 ≤ c) = false := decide_eq_false (by omega)
          have a5 : (c == 95) = false := beq_eq_false_iff_ne.2 (by omega)
          clear h2 h3 k1
          go_enter Tryz.func51, Tryz.ntmps51
          go_wp2_with fail
          go_ret
          exact ⟨ret_int E.out.symm, rfl⟩

      · by_cases h4 : c ∈ Tk.funs
        · have E : Hid (Tk.cls c = 4) := Lib.hid (cls_fun h4)
          have FT := fun wx => function_any c wx
          rw [decide_eq_true h4] at FT
          have HFT := Lib.hid FT
          clear h4 FT
          have a5 : (c == 95) = false := beq_eq_false_iff_ne.2 (by omega)
          have a6 : (c == 175) = false := beq_eq_false_iff_ne.2 (by omega)
          by_cases z1 : 97 ≤ c
          · have b1 : decide (97 ≤ c) = true := decide_eq_true (by omega)
            have b2 : decide (c ≤ 122) = false := decide_eq_false (by omega)
            have b3 : decide (65 ≤ c) = true := decide_eq_true (by omega)
            have b4 : decide (c ≤ 90) = false := decide_eq_false (by omega)
            have b5 : decide (48 ≤ c) = true := decide_eq_true (by omega)
            have b6 : decide (c ≤ 57) = false := decide_eq_false (by omega)
            clear z1 h1 h2 h3 HL
            go_enter Tryz.func51, Tryz.ntmps51
            go_wp2_with fail
            refine (HFT.out _).mono ?_
            rintro e w' ⟨rfl, rfl⟩
            go_wp2_with fail
            go_ret
            exact ⟨ret_int E.out.symm, rfl⟩
          · by_cases z2 : 65 ≤ c
            · have b1 : decide (97 ≤ c) = false := decide_eq_false (by omega)
              have b3 : decide (65 ≤ c) = true := decide_eq_true (by omega)
              have b4 : decide (c ≤ 90) = false := decide_eq_false (by omega)
              have b5 : decide (48 ≤ c) = true := decide_eq_true (by omega)
              have b6 : decide (c ≤ 57) = false := decide_eq_false (by omega)
              clear z1 z2 h1 h2 h3 HL
              go_enter Tryz.func51, Tryz.ntmps51
              go_wp2_with fail
              refine (HFT.out _).mono ?_
              rintro e w' ⟨rfl, rfl⟩
              go_wp2_with fail
              go_ret
              exact ⟨ret_int E.out.symm, rfl⟩
            · by_cases z3 : 48 ≤ c
              · have b1 : decide (97 ≤ c) = false := decide_eq_false (by omega)
                have b3 : decide (65 ≤ c) = false := decide_eq_false (by omega)
                have b5 : decide (48 ≤ c) = true := decide_eq_true (by omega)
                have b6 : decide (c ≤ 57) = false := decide_eq_false (by omega)
                clear z1 z2 z3 h1 h2 h3 HL
                go_enter Tryz.func51, Tryz.ntmps51
                go_wp2_with fail
                refine (HFT.out _).mono ?_
                rintro e w' ⟨rfl, rfl⟩
                go_wp2_with fail
                go_ret
                exact ⟨ret_int E.out.symm, rfl⟩
              · have b1 : decide (97 ≤ c) = false := decide_eq_false (by omega)
                have b3 : decide (65 ≤ c) = false := decide_eq_false (by omega)
                have b5 : decide (48 ≤ c) = false := decide_eq_false (by omega)
                clear z1 z2 z3 h1 h2 h3 HL
                go_enter Tryz.func51, Tryz.ntmps51
                go_wp2_with fail
                refine (HFT.out _).mono ?_
                rintro e w' ⟨rfl, rfl⟩
                go_wp2_with fail
                go_ret
                exact ⟨ret_int E.out.symm, rfl⟩
        · have FT := fun wx => function_any c wx
          rw [decide_eq_false h4] at FT
          have HFT := Lib.hid FT
          have HF4 := Lib.hid h4
          clear h4 FT
          by_cases h5 : c ∈ Tk.opers
          · have E : Hid (Tk.cls c = 5) := Lib.hid (cls_oper h5)
            clear h1 h2 h3 HL q32 q9
            unfold Tk.opers at h5
            simp only [List.mem_cons, List.not_mem_nil, or_false] at h5
            rcases h5 with rfl | rfl | rfl | rfl | rfl | rfl | rfl | rfl | rfl | rfl
            all_goals
              go_enter Tryz.func51, Tryz.ntmps51
              go_wp2_with fail
              refine (HFT.out _).mono ?_
              rintro e w' ⟨rfl, rfl⟩
              go_wp2_with fail
              go_ret
              exact ⟨ret_int E.out.symm, rfl⟩

          · by_cases h6 : c ∈ Tk.marks
            · have E : Hid (Tk.cls c = 6) := Lib.hid (cls_mark h6)
              clear h1 h2 h3 HL q32 q9 h5
              unfold Tk.marks at h6
              simp only [List.mem_cons, List.not_mem_nil, or_false] at h6
              rcases h6 with rfl | rfl | rfl | rfl | rfl | rfl | rfl | rfl | rfl | rfl | rfl | rfl | rfl | rfl | rfl | rfl | rfl
              all_goals
                go_enter Tryz.func51, Tryz.ntmps51
                go_wp2_with fail
                refine (HFT.out _).mono ?_
                rintro e w' ⟨rfl, rfl⟩
                go_wp2_with fail
                go_ret
                exact ⟨ret_int E.out.symm, rfl⟩

            · have E : Hid (Tk.cls c = 0) := Lib.hid (by unfold Tk.cls; rw [if_neg h1, if_neg h2, if_neg h3, if_neg HF4.out, if_neg h5, if_neg h6])
              have o47 : (c == 47) = false := ne_of_not_mem h5 (by decide)
              have o9023 : (c == 9023) = false := ne_of_not_mem h5 (by decide)
              have o92 : (c == 92) = false := ne_of_not_mem h5 (by decide)
              have o9024 : (c == 9024) = false := ne_of_not_mem h5 (by decide)
              have o168 : (c == 168) = false := ne_of_not_mem h5 (by decide)
              have o9064 : (c == 9064) = false := ne_of_not_mem h5 (by decide)
              have o9060 : (c == 9060) = false := ne_of_not_mem h5 (by decide)
              have o9059 : (c == 9059) = false := ne_of_not_mem h5 (by decide)
              have o8728 : (c == 8728) = false := ne_of_not_mem h5 (by decide)
              have o46 : (c == 46) = false := ne_of_not_mem h5 (by decide)
              have m40 : (c == 40) = false := ne_of_not_mem h6 (by decide)
              have m41 : (c == 41) = false := ne_of_not_mem h6 (by decide)
              have m91 : (c == 91) = false := ne_of_not_mem h6 (by decide)
              have m93 : (c == 93) = false := ne_of_not_mem h6 (by decide)
              have m123 : (c == 123) = false := ne_of_not_mem h6 (by decide)
              have m125 : (c == 125) = false := ne_of_not_mem h6 (by decide)
              have m59 : (c == 59) = false := ne_of_not_mem h6 (by decide)
              have m58 : (c == 58) = false := ne_of_not_mem h6 (by decide)
              have m8900 : (c == 8900) = false := ne_of_not_mem h6 (by decide)
              have m8592 : (c == 8592) = false := ne_of_not_mem h6 (by decide)
              have m9082 : (c == 9082) = false := ne_of_not_mem h6 (by decide)
              have m9077 : (c == 9077) = false := ne_of_not_mem h6 (by decide)
              have m8711 : (c == 8711) = false := ne_of_not_mem h6 (by decide)
              have m9109 : (c == 9109) = false := ne_of_not_mem h6 (by decide)
              have m9054 : (c == 9054) = false := ne_of_not_mem h6 (by decide)
              have m39 : (c == 39) = false := ne_of_not_mem h6 (by decide)
              have m9053 : (c == 9053) = false := ne_of_not_mem h6 (by decide)
              clear h5 h6
              have a5 : (c == 95) = false := beq_eq_false_iff_ne.2 (by omega)
              have a6 : (c == 175) = false := beq_eq_false_iff_ne.2 (by omega)
              by_cases z1 : 97 ≤ c
              · have b1 : decide (97 ≤ c) = true := decide_eq_true (by omega)
                have b2 : decide (c ≤ 122) = false := decide_eq_false (by omega)
                have b3 : decide (65 ≤ c) = true := decide_eq_true (by omega)
                have b4 : decide (c ≤ 90) = false := decide_eq_false (by omega)
                have b5 : decide (48 ≤ c) = true := decide_eq_true (by omega)
                have b6 : decide (c ≤ 57) = false := decide_eq_false (by omega)
                clear z1 h1 h2 h3 HL
                go_enter Tryz.func51, Tryz.ntmps51
                go_wp2_with fail
                refine (HFT.out _).mono ?_
                rintro e w' ⟨rfl, rfl⟩
                go_wp2_with fail
                go_ret
                exact ⟨ret_int E.out.symm, rfl⟩
              · by_cases z2 : 65 ≤ c
                · have b1 : decide (97 ≤ c) = false := decide_eq_false (by omega)
                  have b3 : decide (65 ≤ c) = true := decide_eq_true (by omega)
                  have b4 : decide (c ≤ 90) = false := decide_eq_false (by omega)
                  have b5 : decide (48 ≤ c) = true := decide_eq_true (by omega)
                  have b6 : decide (c ≤ 57) = false := decide_eq_false (by omega)
                  clear z1 z2 h1 h2 h3 HL
                  go_enter Tryz.func51, Tryz.ntmps51
                  go_wp2_with fail
                  refine (HFT.out _).mono ?_
                  rintro e w' ⟨rfl, rfl⟩
                  go_wp2_with fail
                  go_ret
                  exact ⟨ret_int E.out.symm, rfl⟩
                · by_cases z3 : 48 ≤ c
                  · have b1 : decide (97 ≤ c) = false := decide_eq_false (by omega)
                    have b3 : decide (65 ≤ c) = false := decide_eq_false (by omega)
                    have b5 : decide (48 ≤ c) = true := decide_eq_true (by omega)
                    have b6 : decide (c ≤ 57) = false := decide_eq_false (by omega)
                    clear z1 z2 z3 h1 h2 h3 HL
                    go_enter Tryz.func51, Tryz.ntmps51
                    go_wp2_with fail
                    refine (HFT.out _).mono ?_
                    rintro e w' ⟨rfl, rfl⟩
                    go_wp2_with fail
                    go_ret
                    exact ⟨ret_int E.out.symm, rfl⟩
                  · have b1 : decide (97 ≤ c) = false := decide_eq_false (by omega)
                    have b3 : decide (65 ≤ c) = false := decide_eq_false (by omega)
                    have b5 : decide (48 ≤ c) = false := decide_eq_false (by omega)
                    clear z1 z2 z3 h1 h2 h3 HL
                    go_enter Tryz.func51, Tryz.ntmps51
                    go_wp2_with fail
                    refine (HFT.out _).mono ?_
                    rintro e w' ⟨rfl, rfl⟩
                    go_wp2_with fail
                    go_ret
                    exact ⟨ret_int E.out.symm, rfl⟩
end Go.Proofs.YtceplkpjnebnfaaGreatDoor

/-
  Characters and bytes, plain: all characters of a text.
-/
namespace Gl
open Go
theorem read_some {s : ByteArray} {i c n : Nat} (h : read s i = some (c, n)) : Utf8.decode s i = (c, n) ∧ ¬(c = 65533 ∧ n = 1) := by
  unfold read at h
  split at h
  · cases h
  · next hne =>
    injection h with h
    refine ⟨h, ?_⟩
    rintro ⟨rfl, rfl⟩
    exact hne h
theorem read_pos {s : ByteArray} {i c n : Nat} (h : read s i = some (c, n)) : 1 ≤ n ∧ n ≤ 4 := by
  have h := (read_some h).1
  rw [decode_eq] at h
  repeat' split at h
  all_goals (injection h with h1 h2; omega)
theorem read_may {s : ByteArray} {i c n : Nat} (hi : i < s.size) (h : read s i = some (c, n)) : may (c : Int) = true := by
  have hr := refRead_eq s i hi
  rw [h] at hr
  unfold refRead at hr
  split at hr
  · cases hr
  · split at hr
    · next hm => injection hr with hr; injection hr with h1 h2; subst h1; exact hm.1
    · cases hr
theorem read_le {s : ByteArray} {i c n : Nat} (hi : i < s.size) (h : read s i = some (c, n)) : i + n ≤ s.size := by
  have h := (read_some h).1
  rw [decode_eq] at h
  repeat' split at h
  all_goals (injection h with h1 h2; omega)
/-- The characters from a byte on: so many at the most; and where there is none. -/
def decF (s : ByteArray) : Nat → Nat → List Nat × Option Nat
  | 0, _ => ([], none)
  | f + 1, i => if s.size ≤ i then ([], none) else match read s i with
    | none => ([], some i)
    | some (c, n) => (c :: (decF s f (i + n)).1, (decF s f (i + n)).2)
theorem decF_fuel {s : ByteArray} : ∀ {f g i : Nat}, s.size - i < f → s.size - i < g → decF s f i = decF s g i
  | 0, _, _, h, _ => by omega
  | _, 0, _, _, h => by omega
  | f + 1, g + 1, i, h1, h2 => by
    unfold decF
    by_cases hi : s.size ≤ i
    · rw [if_pos hi, if_pos hi]
    · rw [if_neg hi, if_neg hi]
      cases hr : read s i with
      | none => rfl
      | some p =>
        obtain ⟨c, n⟩ := p
        have := read_pos hr
        have e := decF_fuel (s := s) (f := f) (g := g) (i := i + n) (by omega) (by omega)
        simp only [e]
/-- The characters from a byte on, and where there is none. -/
def dec (s : ByteArray) (i : Nat) : List Nat × Option Nat := decF s (s.size + 1 - i) i
theorem dec_end {s : ByteArray} {i : Nat} (h : s.size ≤ i) : dec s i = ([], none) := by
  unfold dec
  cases s.size + 1 - i with
  | zero => rfl
  | succ k => unfold decF; rw [if_pos h]
theorem dec_bad {s : ByteArray} {i : Nat} (h : i < s.size) (hr : read s i = none) : dec s i = ([], some i) := by
  unfold dec
  rw [show s.size + 1 - i = (s.size - i) + 1 by omega]
  unfold decF
  rw [if_neg (by omega), hr]
theorem dec_step {s : ByteArray} {i c n : Nat} (h : i < s.size) (hr : read s i = some (c, n)) : dec s i = (c :: (dec s (i + n)).1, (dec s (i + n)).2) := by
  have hp := read_pos hr
  have hle := read_le h hr
  have e := decF_fuel (s := s) (f := s.size - i) (g := s.size + 1 - (i + n)) (i := i + n) (by omega) (by omega)
  unfold dec
  rw [show s.size + 1 - i = (s.size - i) + 1 by omega]
  conv => lhs; unfold decF
  rw [if_neg (by omega), hr]
  simp only [e]
theorem dec_may {s : ByteArray} : ∀ (k i : Nat), s.size - i < k → ∀ c ∈ (dec s i).1, may (c : Int) = true
  | 0, _, h => by omega
  | k + 1, i, hk => by
    intro c hc
    by_cases hi : i < s.size
    · cases h : read s i with
      | none => rw [dec_bad hi h] at hc; cases hc
      | some p =>
        obtain ⟨c', n⟩ := p
        have hp := read_pos h
        rw [dec_step hi h] at hc
        rcases List.mem_cons.1 hc with rfl | hc
        · exact read_may hi h
        · exact dec_may k (i + n) (by omega) c hc
    · rw [dec_end (by omega)] at hc; cases hc
theorem dec_len {s : ByteArray} : ∀ (k i : Nat), s.size - i < k → (dec s i).1.length ≤ s.size - i
  | 0, _, h => by omega
  | k + 1, i, hk => by
    by_cases hi : i < s.size
    · cases h : read s i with
      | none => rw [dec_bad hi h]; exact Nat.zero_le _
      | some p =>
        obtain ⟨c', n⟩ := p
        have hp := read_pos h
        have hl := read_le hi h
        have ih := dec_len (s := s) k (i + n) (by omega)
        rw [dec_step hi h]
        simp only [List.length_cons]
        omega
    · rw [dec_end (by omega)]; exact Nat.zero_le _
/-- Numbers as Go's. -/
def ints (l : List Nat) : List Int := l.map fun (n : Nat) => (n : Int)
end Gl

/-
  Tokens, plain: all tokens of a line; they rise; blanks ahead and a comment behind change nothing.
-/
namespace Tk
open Go
/-- The tokens from a place on, behind those that there are; the place where there is none, and the error. -/
def goF (l : List Int) : Nat → Nat → List Tok → List Tok × Nat × Int
  | 0, _, out => (out, 0, 0)
  | f + 1, i, out =>
    if l.length ≤ i ∨ l.getD i (-1) = 9053 then (out, 0, 0)
    else if cls (l.getD i (-1)) = 1 then goF l f (i + 1) out
    else if (read l i).2.2 ≠ 0 then ([], i, (read l i).2.2)
    else goF l f (i + (read l i).2.1) (out ++ [(read l i).1])
/-- What a line's characters are cut into. -/
def cutL (l : List Int) (bad : Option Nat) : List Tok × Nat × Int :=
  if 2000 < l.length then ([], 0, 7)
  else if (goF l (l.length + 1) 0 []).2.2 ≠ 0 then goF l (l.length + 1) 0 []
  else match bad with
    | none => goF l (l.length + 1) 0 []
    | some _ => ([], l.length, 1)
def cut (s : ByteArray) : List Tok × Nat × Int := cutL (Gl.ints (Gl.dec s 0).1) (Gl.dec s 0).2

end Tk

/-
  Arrays as trees, plain: no program in sight. Joins of labels, equality with labels and without, erasing.
-/
namespace Ar
mutual
inductive Arr where
  | mk (S : Nat) (shape : List Int) (cells : List Cel)
inductive Cel where
  | mk (L : Nat) (kind : Int) (neg : Bool) (top bot : List Nat) (c : Int) (ins : List Arr)
end


mutual
def same (lab : Bool) : Arr → Arr → Bool
  | .mk S sh cs, .mk S' sh' cs' => (!lab || S == S') && (sh == sh') && sameCels lab cs cs'
def sameCels (lab : Bool) : List Cel → List Cel → Bool
  | [], [] => true
  | c :: r, c' :: r' => sameCel lab c c' && sameCels lab r r'
  | _, _ => false
def sameCel (lab : Bool) : Cel → Cel → Bool
  | .mk L k n t b c ins, .mk L' k' n' t' b' c' ins' => (!lab || L == L') && (k == k') && (c == c') && (n == n' && t == t' && b == b') && sameArrs lab ins ins'
def sameArrs (lab : Bool) : List Arr → List Arr → Bool
  | [], [] => true
  | a :: r, a' :: r' => same lab a a' && sameArrs lab r r'
  | _, _ => false
end






end Ar

/-
  Arrays in memory: what it is that cells hold a tree ('IsArr'), kept from world to world.
-/
namespace Go.Proofs.YtceplkpjnebnfaaGreatDoor
open Go.RowKit Ar
set_option linter.unusedVariables false

/-- A slice value that holds n elements of so many bytes each. -/
def Fits (n c bytes : Nat) : Prop := n ≤ c ∧ n * bytes ≤ 140737488351232 ∧ c ≤ 9223372036854775807
theorem Fits.le {n c bytes : Nat} (h : Fits n c bytes) (hb : 1 ≤ bytes) : n ≤ c ∧ n ≤ 140737488351232 := by
  refine ⟨h.1, ?_⟩
  have h1 := Nat.mul_le_mul_left n hb
  have h2 := h.2.1
  omega
def Wf64 (l : List Int) : Prop := ∀ n ∈ l, -9223372036854775808 ≤ n ∧ n ≤ 9223372036854775807
def Wf32 (l : List Nat) : Prop := ∀ n ∈ l, n < 4294967296
def I64 (l : List Int) : List Value := l.map (Value.int .i64)
def U32 (l : List Nat) : List Value := l.map fun n : Nat => Value.int .u32 (n : Int)

mutual
/-- Three cells hold an array. -/
def IsArr (w : World) (B : Nat) : Arr → List Value → Prop
  | .mk S shape cells, vs => ∃ A c A' c' us, vs = [.int .u64 (S : Int), .slice A shape.length c, .slice A' cells.length c'] ∧ S < 18446744073709551616 ∧ Fits shape.length c 8 ∧ Fits cells.length c' 104 ∧ Wf64 shape ∧
      Lies w B A (I64 shape) ∧ Lies w B A' us ∧ IsCels w B cells us
def IsCels (w : World) (B : Nat) : List Cel → List Value → Prop
  | [], vs => vs = []
  | c :: r, vs => ∃ u t, vs = u ++ t ∧ IsCel w B c u ∧ IsCels w B r t
/-- Seven cells hold a cell. -/
def IsCel (w : World) (B : Nat) : Cel → List Value → Prop
  | .mk L kind neg top bot ch ins, vs => ∃ A c A' c' A'' c'' us, vs = [.int .u64 (L : Int), .int .i64 kind, .bool neg, .slice A top.length c, .slice A' bot.length c', .int .i64 ch, .slice A'' ins.length c''] ∧
      L < 18446744073709551616 ∧ Fits top.length c 4 ∧ Fits bot.length c' 4 ∧ Fits ins.length c'' 56 ∧ Wf64 [kind, ch] ∧ Wf32 top ∧ Wf32 bot ∧ Lies w B A (U32 top) ∧ Lies w B A' (U32 bot) ∧ Lies w B A'' us ∧ IsArrs w B ins us ∧ (A = none → c = 0) ∧ (A' = none → c' = 0)
def IsArrs (w : World) (B : Nat) : List Arr → List Value → Prop
  | [], vs => vs = []
  | a :: r, vs => ∃ u t, vs = u ++ t ∧ IsArr w B a u ∧ IsArrs w B r t
end

theorem IsArr.len {w : World} {B : Nat} {a : Arr} {vs : List Value} (h : IsArr w B a vs) : vs.length = 3 := by
  cases a; rw [IsArr] at h
  obtain ⟨A, c, A', c', us, rfl, _⟩ := h
  rfl
theorem IsCel.len {w : World} {B : Nat} {a : Cel} {vs : List Value} (h : IsCel w B a vs) : vs.length = 7 := by
  cases a; rw [IsCel] at h
  obtain ⟨A, c, A', c', A2, c2, us, rfl, _⟩ := h
  rfl

mutual
theorem IsArr.keep {w w' : World} {B B' : Nat} (hk : ∀ p : Addr, p.block < B → w'.cell? p = w.cell? p) (hB : B ≤ B') : ∀ (a : Arr) (vs : List Value), IsArr w B a vs → IsArr w' B' a vs
  | .mk S shape cells, vs, h => by
    rw [IsArr] at h ⊢
    obtain ⟨A, c, A', c', us, h1, h2, h3, h4, h5, h6, h7, h8⟩ := h
    exact ⟨A, c, A', c', us, h1, h2, h3, h4, h5, (h6.keep hk).more hB, (h7.keep hk).more hB, IsCels.keep hk hB cells us h8⟩
theorem IsCels.keep {w w' : World} {B B' : Nat} (hk : ∀ p : Addr, p.block < B → w'.cell? p = w.cell? p) (hB : B ≤ B') : ∀ (a : List Cel) (vs : List Value), IsCels w B a vs → IsCels w' B' a vs
  | [], vs, h => by rw [IsCels] at h ⊢; exact h
  | c :: r, vs, h => by
    rw [IsCels] at h ⊢
    obtain ⟨u, t, h1, h2, h3⟩ := h
    exact ⟨u, t, h1, IsCel.keep hk hB c u h2, IsCels.keep hk hB r t h3⟩
theorem IsCel.keep {w w' : World} {B B' : Nat} (hk : ∀ p : Addr, p.block < B → w'.cell? p = w.cell? p) (hB : B ≤ B') : ∀ (a : Cel) (vs : List Value), IsCel w B a vs → IsCel w' B' a vs
  | .mk L kind neg top bot ch ins, vs, h => by
    rw [IsCel] at h ⊢
    obtain ⟨A, c, A', c', A2, c2, us, h1, h2, h3, h4, h5, h6, h7, h8, h9, h10, h11, h12⟩ := h
    exact ⟨A, c, A', c', A2, c2, us, h1, h2, h3, h4, h5, h6, h7, h8, (h9.keep hk).more hB, (h10.keep hk).more hB, (h11.keep hk).more hB, IsArrs.keep hk hB ins us h12.1, h12.2⟩
theorem IsArrs.keep {w w' : World} {B B' : Nat} (hk : ∀ p : Addr, p.block < B → w'.cell? p = w.cell? p) (hB : B ≤ B') : ∀ (a : List Arr) (vs : List Value), IsArrs w B a vs → IsArrs w' B' a vs
  | [], vs, h => by rw [IsArrs] at h ⊢; exact h
  | c :: r, vs, h => by
    rw [IsArrs] at h ⊢
    obtain ⟨u, t, h1, h2, h3⟩ := h
    exact ⟨u, t, h1, IsArr.keep hk hB c u h2, IsArrs.keep hk hB r t h3⟩
end
theorem IsArr.below {w w' : World} {B : Nat} {a : Arr} {vs : List Value} (h : IsArr w B a vs) (hb : Below B w w') : IsArr w' B a vs := IsArr.keep (fun _ hp => hb.cell hp) (Nat.le_refl _) a vs h
theorem IsArr.more {w : World} {B B' : Nat} {a : Arr} {vs : List Value} (h : IsArr w B a vs) (hB : B ≤ B') : IsArr w B' a vs := IsArr.keep (fun _ _ => rfl) hB a vs h
theorem IsCel.below {w w' : World} {B : Nat} {a : Cel} {vs : List Value} (h : IsCel w B a vs) (hb : Below B w w') : IsCel w' B a vs := IsCel.keep (fun _ hp => hb.cell hp) (Nat.le_refl _) a vs h
theorem IsArrs.below {w w' : World} {B : Nat} {a : List Arr} {vs : List Value} (h : IsArrs w B a vs) (hb : Below B w w') : IsArrs w' B a vs := IsArrs.keep (fun _ hp => hb.cell hp) (Nat.le_refl _) a vs h
theorem IsCels.below {w w' : World} {B : Nat} {a : List Cel} {vs : List Value} (h : IsCels w B a vs) (hb : Below B w w') : IsCels w' B a vs := IsCels.keep (fun _ hp => hb.cell hp) (Nat.le_refl _) a vs h

theorem IsCels.at_ {w : World} {B : Nat} : ∀ {cs : List Cel} {vs : List Value} (h : IsCels w B cs vs) {k : Nat} (hk : k < cs.length), ∃ u, IsCel w B cs[k] u ∧ u = (vs.drop (7 * k)).take 7
  | [], _, _, _, hk => by simp at hk
  | c :: r, vs, h, 0, _ => by
    rw [IsCels] at h
    obtain ⟨u, t, rfl, h2, h3⟩ := h
    exact ⟨u, h2, by simp [h2.len]⟩
  | c :: r, vs, h, k + 1, hk => by
    rw [IsCels] at h
    obtain ⟨u, t, rfl, h2, h3⟩ := h
    obtain ⟨u', h4, h5⟩ := h3.at_ (k := k) (by simpa using hk)
    refine ⟨u', h4, h5.trans ?_⟩
    rw [show 7 * (k + 1) = u.length + 7 * k by rw [h2.len]; omega, List.drop_append, List.drop_eq_nil_of_le (Nat.le_add_right _ _), Nat.add_sub_cancel_left, List.nil_append]
theorem IsArrs.at_ {w : World} {B : Nat} : ∀ {cs : List Arr} {vs : List Value} (h : IsArrs w B cs vs) {k : Nat} (hk : k < cs.length), ∃ u, IsArr w B cs[k] u ∧ u = (vs.drop (3 * k)).take 3
  | [], _, _, _, hk => by simp at hk
  | c :: r, vs, h, 0, _ => by
    rw [IsArrs] at h
    obtain ⟨u, t, rfl, h2, h3⟩ := h
    exact ⟨u, h2, by simp [h2.len]⟩
  | c :: r, vs, h, k + 1, hk => by
    rw [IsArrs] at h
    obtain ⟨u, t, rfl, h2, h3⟩ := h
    obtain ⟨u', h4, h5⟩ := h3.at_ (k := k) (by simpa using hk)
    refine ⟨u', h4, h5.trans ?_⟩
    rw [show 3 * (k + 1) = u.length + 3 * k by rw [h2.len]; omega, List.drop_append, List.drop_eq_nil_of_le (Nat.le_add_right _ _), Nat.add_sub_cancel_left, List.nil_append]
theorem IsCels.len {w : World} {B : Nat} : ∀ {cs : List Cel} {vs : List Value} (h : IsCels w B cs vs), vs.length = 7 * cs.length
  | [], _, h => by rw [IsCels] at h; subst h; rfl
  | c :: r, vs, h => by
    rw [IsCels] at h
    obtain ⟨u, t, rfl, h2, h3⟩ := h
    rw [List.length_append, h2.len, h3.len, List.length_cons]; omega
theorem IsArrs.len {w : World} {B : Nat} : ∀ {cs : List Arr} {vs : List Value} (h : IsArrs w B cs vs), vs.length = 3 * cs.length
  | [], _, h => by rw [IsArrs] at h; subst h; rfl
  | c :: r, vs, h => by
    rw [IsArrs] at h
    obtain ⟨u, t, rfl, h2, h3⟩ := h
    rw [List.length_append, h2.len, h3.len, List.length_cons]; omega
/-- The cells of the k-th element of a row of elements of so many cells each. -/
theorem Lies.elem {w : World} {B : Nat} {A : Option Addr} {vs : List Value} (h : Lies w B A vs) {m k : Nat} {u : List Value} (hu : u = (vs.drop (m * k)).take m) (hn : u ≠ []) :
    ∃ b off, A = some ⟨b, off, none⟩ ∧ b < B ∧ ∀ j v, u[j]? = some v → w.cell? ⟨b, off + k * m + j, none⟩ = some v := by
  rcases h with h | ⟨b, off, hA, hb, hc⟩
  · subst h; simp at hu; exact absurd hu hn
  · refine ⟨b, off, hA, hb, fun j v hv => ?_⟩
    have := hc (k * m + j) v (by
      rw [hu, List.getElem?_take] at hv
      split at hv
      · rw [List.getElem?_drop] at hv; rw [← hv, Nat.mul_comm]
      · cases hv)
    rw [← this, Nat.add_assoc]

/-- The form of an array's three cells. -/
theorem IsArr.form {w : World} {B : Nat} {a : Arr} {vs : List Value} (h : IsArr w B a vs) : ∃ (S : Nat) (A : Option Addr) (n c : Nat) (A' : Option Addr) (n' c' : Nat), vs = [.int .u64 (S : Int), .slice A n c, .slice A' n' c'] := by
  cases a; rw [IsArr] at h
  obtain ⟨A, c, A', c', us, rfl, _⟩ := h
  exact ⟨_, _, _, _, _, _, _, rfl⟩
end Go.Proofs.YtceplkpjnebnfaaGreatDoor

/-
  Lists compared: slices.Equal, and the reference's. (Printed by wip/bin/gen_same1.py.)
-/
namespace Go.Proofs.YtceplkpjnebnfaaGreatDoor
open Go.RowKit Ar
set_option maxHeartbeats 1000000
set_option linter.unusedVariables false

theorem beq_at {α : Type} [BEq α] [LawfulBEq α] {l l' : List α} {k : Nat} (h : k < l.length) (h' : k < l'.length) (hne : l[k] ≠ l'[k]) : (l == l') = false := by
  rw [beq_eq_false_iff_ne]
  rintro rfl
  exact hne rfl
theorem beq_take {α : Type} [BEq α] [LawfulBEq α] {l l' : List α} {k : Nat} (hl : l.length = l'.length) (hk : k = l.length) (h : l.take k = l'.take k) : (l == l') = true := by
  rw [beq_iff_eq]
  rwa [hk, List.take_length, hl, List.take_length] at h
theorem beq_len {α : Type} [BEq α] [LawfulBEq α] {l l' : List α} (h : l.length ≠ l'.length) : (l == l') = false := by
  rw [beq_eq_false_iff_ne]
  rintro rfl
  exact h rfl
theorem take_more {α : Type} {l l' : List α} {k : Nat} (h : k < l.length) (h' : k < l'.length) (he : l.take k = l'.take k) (hk : l[k] = l'[k]) : l.take (k + 1) = l'.take (k + 1) := by
  rw [List.take_succ_eq_append_getElem h, List.take_succ_eq_append_getElem h', he, hk]
theorem below_drewN' {B : Nat} {w w' : World} (h : Below B w w') (n : Nat) : Below B w (w'.drewN n) := ⟨h.os, h.tape, h.output, h.size, h.block⟩
theorem lies_i64 {w : World} {B : Nat} {A : Option Addr} {l : List Int} (h : Lies w B A (I64 l)) {k : Nat} (hk : k < l.length) : ∃ b off, A = some ⟨b, off, none⟩ ∧ b < B ∧ w.cell? ⟨b, off + k, none⟩ = some (.int .i64 l[k]) := by
  obtain ⟨b, off, h1, h2, h3⟩ := h.at_ (k := k) (by simpa [I64] using hk)
  exact ⟨b, off, h1, h2, by rw [h3]; simp [I64]⟩
theorem lies_u32 {w : World} {B : Nat} {A : Option Addr} {l : List Nat} (h : Lies w B A (U32 l)) {k : Nat} (hk : k < l.length) : ∃ b off, A = some ⟨b, off, none⟩ ∧ b < B ∧ w.cell? ⟨b, off + k, none⟩ = some (.int .u32 (l[k] : Int)) := by
  obtain ⟨b, off, h1, h2, h3⟩ := h.at_ (k := k) (by simpa [U32] using hk)
  exact ⟨b, off, h1, h2, by rw [h3]; simp [U32]⟩

theorem eqU32_any (l l' : List Nat) (A A' : Option Addr) (c c' : Nat) (w : World) (B : Nat) (hA : Lies w B A (U32 l)) (hA' : Lies w B A' (U32 l')) (hn : l.length ≤ 9223372036854775807) (hn' : l'.length ≤ 9223372036854775807) :
    Calls Tryz.prog 151 #[.slice A l.length c, .slice A' l'.length c'] w fun e w' => e = .returned (.bool (l == l')) ∧ Below w.heap.size w w' := by
  have HA := Lib.hid hA
  have HA' := Lib.hid hA'
  clear hA hA'
  by_cases hne : l.length = l'.length
  · have hd : (l.length != l'.length) = false := by simpa using hne
    have hln : l.length ≤ l'.length := by omega
    have HN := Lib.hid hne
    clear hne
    go_enter Tryz.func151, Tryz.ntmps151
    go_wp2_with fail
    go_loopw [5, 13] (fun u i wr => ∃ k n : Nat, k ≤ l.length ∧ i = .int .i64 k ∧ wr = w.drewN n ∧ Hid (l.take k = l'.take k)) (fun u i _ => l.length - (intOf i).toNat)
    case atStart => exact ⟨0, 0, Nat.zero_le _, rfl, rfl, Lib.hid rfl⟩
    case round =>
      obtain ⟨k, n, hk, rfl, rfl, HT⟩ := hrel
      by_cases hlt : k < l.length
      · have hlt' : k < l'.length := by omega
        obtain ⟨b, off, rfl, hb, g0⟩ := lies_u32 HA.out hlt
        obtain ⟨b', off', rfl, hb', g1⟩ := lies_u32 HA'.out hlt'
        have HM := Lib.hid (take_more hlt hlt' HT.out)
        have HZ := Lib.hid (beq_at (l := l) (l' := l') hlt hlt')
        generalize l[k] = x at g0 HM HZ
        generalize l'[k] = y at g1 HM HZ
        have hk0 : (0 : Int) ≤ (k : Int) := by omega
        have hk1 : (k : Int) < (l.length : Int) := by omega
        have hk2 : (k : Int) < (l'.length : Int) := by omega
        by_cases hxy : x = y
        · subst hxy
          have e1 : (x != x) = false := by simp
          have HM2 := Lib.hid (HM.out rfl)
          clear HM HZ
          go_wp2_with fail
          go_quiet (fail)
          go_wp2_with fail
          go_roundw
          case rel => exact ⟨k + 1, n + nq, by omega, by go_num, rfl, HM2⟩
          case measure => simp [intOf]; omega
        · have e1 : (x != y) = true := by simpa using hxy
          have HZ2 := Lib.hid (HZ.out hxy)
          have e2 : ((x : Int) != (y : Int)) = true := by simp; omega
          clear HM HZ hxy
          go_wp2_with fail
          go_quiet (fail)
          go_wp2_with fail
          go_ret
          exact ⟨ret_bool (by rw [HZ2.out]), below_drewN' (below_drewN' (Below.refl _ _) _) _⟩
      · have hke : k = l.length := by omega
        have HZ2 := Lib.hid (beq_take HN.out hke HT.out)
        clear hke HT
        go_wp2_with fail
        go_ret
        exact ⟨ret_bool (by rw [HZ2.out]), below_drewN' (Below.refl _ _) _⟩
  · have hd : (l.length != l'.length) = true := by simpa using hne
    have HZ2 := Lib.hid (beq_len hne)
    clear hne
    go_enter Tryz.func151, Tryz.ntmps151
    go_wp2_with fail
    go_ret
    exact ⟨ret_bool (by rw [HZ2.out]), Below.refl _ _⟩

theorem refSame2_any (l l' : List Nat) (A A' : Option Addr) (c c' : Nat) (w : World) (B : Nat) (hA : Lies w B A (U32 l)) (hA' : Lies w B A' (U32 l')) (hn : l.length ≤ 9223372036854775807) (hn' : l'.length ≤ 9223372036854775807) :
    Calls Tryz.prog 57 #[.slice A l.length c, .slice A' l'.length c'] w fun e w' => e = .returned (.bool (l == l')) ∧ Below w.heap.size w w' := by
  have HA := Lib.hid hA
  have HA' := Lib.hid hA'
  clear hA hA'
  by_cases hne : l.length = l'.length
  · have hd : (l.length != l'.length) = false := by simpa using hne
    have hln : l.length ≤ l'.length := by omega
    have HN := Lib.hid hne
    clear hne
    go_enter Tryz.func57, Tryz.ntmps57
    go_wp2_with fail
    go_loopw [5] (fun i wr => ∃ k n : Nat, k ≤ l.length ∧ i = .int .i64 k ∧ wr = w.drewN n ∧ Hid (l.take k = l'.take k)) (fun i _ => l.length - (intOf i).toNat)
    case atStart => exact ⟨0, 0, Nat.zero_le _, rfl, rfl, Lib.hid rfl⟩
    case round =>
      obtain ⟨k, n, hk, rfl, rfl, HT⟩ := hrel
      by_cases hlt : k < l.length
      · have hlt' : k < l'.length := by omega
        obtain ⟨b, off, rfl, hb, g0⟩ := lies_u32 HA.out hlt
        obtain ⟨b', off', rfl, hb', g1⟩ := lies_u32 HA'.out hlt'
        have HM := Lib.hid (take_more hlt hlt' HT.out)
        have HZ := Lib.hid (beq_at (l := l) (l' := l') hlt hlt')
        generalize l[k] = x at g0 HM HZ
        generalize l'[k] = y at g1 HM HZ
        have hk0 : (0 : Int) ≤ (k : Int) := by omega
        have hk1 : (k : Int) < (l.length : Int) := by omega
        have hk2 : (k : Int) < (l'.length : Int) := by omega
        by_cases hxy : x = y
        · subst hxy
          have e1 : (x != x) = false := by simp
          have HM2 := Lib.hid (HM.out rfl)
          clear HM HZ
          go_wp2_with fail
          go_quiet (fail)
          go_wp2_with fail
          go_roundw
          case rel => exact ⟨k + 1, n + nq, by omega, by go_num, rfl, HM2⟩
          case measure => simp [intOf]; omega
        · have e1 : (x != y) = true := by simpa using hxy
          have HZ2 := Lib.hid (HZ.out hxy)
          have e2 : ((x : Int) != (y : Int)) = true := by simp; omega
          clear HM HZ hxy
          go_wp2_with fail
          go_quiet (fail)
          go_wp2_with fail
          go_ret
          exact ⟨ret_bool (by rw [HZ2.out]), below_drewN' (below_drewN' (Below.refl _ _) _) _⟩
      · have hke : k = l.length := by omega
        have HZ2 := Lib.hid (beq_take HN.out hke HT.out)
        clear hke HT
        go_wp2_with fail
        go_ret
        exact ⟨ret_bool (by rw [HZ2.out]), below_drewN' (Below.refl _ _) _⟩
  · have hd : (l.length != l'.length) = true := by simpa using hne
    have HZ2 := Lib.hid (beq_len hne)
    clear hne
    go_enter Tryz.func57, Tryz.ntmps57
    go_wp2_with fail
    go_ret
    exact ⟨ret_bool (by rw [HZ2.out]), Below.refl _ _⟩
end Go.Proofs.YtceplkpjnebnfaaGreatDoor

/-
  token.digit, token.letter: what stands at a place of a line.
-/
namespace Go.Proofs.YtceplkpjnebnfaaGreatDoor
open Go.RowKit
set_option maxHeartbeats 2000000
set_option maxRecDepth 100000
set_option linter.unusedVariables false

theorem may_any (x : Int) (w : World) :
    Calls Tryz.prog 104 #[.int .i64 x] w fun e w' => e = .returned (.bool (Gl.may x)) ∧ w = w' := by
  have HE : Hid (Gl.may x = (decide (0 ≤ x) && decide (x ≤ 1114111) && (decide (x < 55296) || decide (57343 < x)))) := Lib.hid rfl
  by_cases h0 : 0 ≤ x
  · by_cases h1 : x ≤ 1114111
    · by_cases h2 : x < 55296
      · have E : Hid (Gl.may x = true) := Lib.hid (by rw [HE.out]; simp; omega)
        go_enter Tryz.func104, Tryz.ntmps104
        go_wp2_with fail
        go_ret
        exact ⟨ret_bool E.out.symm, rfl⟩
      · have q2 : decide (x < 55296) = false := decide_eq_false h2
        by_cases h3 : 57343 < x
        · have E : Hid (Gl.may x = true) := Lib.hid (by rw [HE.out]; simp; omega)
          go_enter Tryz.func104, Tryz.ntmps104
          go_wp2_with fail
          go_ret
          exact ⟨ret_bool E.out.symm, rfl⟩
        · have q3 : decide (57343 < x) = false := decide_eq_false h3
          have E : Hid (Gl.may x = false) := Lib.hid (by rw [HE.out]; simp; omega)
          go_enter Tryz.func104, Tryz.ntmps104
          go_wp2_with fail
          go_ret
          exact ⟨ret_bool E.out.symm, rfl⟩
    · have q1 : decide (x ≤ 1114111) = false := decide_eq_false h1
      have E : Hid (Gl.may x = false) := Lib.hid (by rw [HE.out, q1]; simp)
      go_enter Tryz.func104, Tryz.ntmps104
      go_wp2_with fail
      go_ret
      exact ⟨ret_bool E.out.symm, rfl⟩
  · have q0 : decide (0 ≤ x) = false := decide_eq_false h0
    have E : Hid (Gl.may x = false) := Lib.hid (by rw [HE.out, q0]; simp)
    go_enter Tryz.func104, Tryz.ntmps104
    go_wp2_with fail
    go_ret
    exact ⟨ret_bool E.out.symm, rfl⟩
end Go.Proofs.YtceplkpjnebnfaaGreatDoor

/-
  Characters and bytes, plain: the sign of no character (U+FFFD), and how it is told from a byte that is none's.
-/
namespace Gl
open Go
set_option linter.unusedVariables false
/-- What has been read, and what is left. -/
def DecAt (s : ByteArray) (pos : Nat) (done : List Nat) : Prop := pos ≤ s.size ∧ dec s 0 = (done ++ (dec s pos).1, (dec s pos).2)
theorem DecAt.start (s : ByteArray) : DecAt s 0 [] := ⟨Nat.zero_le _, by simp⟩
theorem DecAt.step {s : ByteArray} {pos c n : Nat} {done : List Nat} (h : DecAt s pos done) (hp : pos < s.size) (hr : read s pos = some (c, n)) : DecAt s (pos + n) (done ++ [c]) := by
  refine ⟨read_le hp hr, ?_⟩
  rw [h.2, dec_step hp hr]
  simp
theorem DecAt.bad {s : ByteArray} {pos : Nat} {done : List Nat} (h : DecAt s pos done) (hp : pos < s.size) (hr : read s pos = none) : dec s 0 = (done, some pos) := by
  rw [h.2, dec_bad hp hr]; simp
theorem DecAt.done {s : ByteArray} {pos : Nat} {done : List Nat} (h : DecAt s pos done) (hp : ¬ pos < s.size) : dec s 0 = (done, none) := by
  rw [h.2, dec_end (by omega)]; simp
theorem DecAt.len {s : ByteArray} {pos : Nat} {done : List Nat} (h : DecAt s pos done) : done.length ≤ s.size := by
  have h1 := dec_len (s := s) (s.size + 1) 0 (by omega)
  rw [h.2] at h1
  simp at h1
  omega
theorem DecAt.may {s : ByteArray} {pos : Nat} {done : List Nat} (h : DecAt s pos done) : ∀ c ∈ done, Gl.may (c : Int) = true := fun c hc =>
  dec_may (s := s) (s.size + 1) 0 (by omega) c (by rw [h.2]; exact List.mem_append_left _ hc)
end Gl

/-
  Expressions, plain: how deep, how many; which may be.
-/
namespace Tr
open Go

inductive Tree where
  | mk (kind op : Int) (name : List UInt8) (n : Rt.Nm) (text : List Int) (kids : List Tree)
def kind : Tree → Int
  | .mk k _ _ _ _ _ => k
def op : Tree → Int
  | .mk _ o _ _ _ _ => o
def name : Tree → List UInt8
  | .mk _ _ m _ _ _ => m
def num : Tree → Rt.Nm
  | .mk _ _ _ n _ _ => n
def text : Tree → List Int
  | .mk _ _ _ _ t _ => t
def kids : Tree → List Tree
  | .mk _ _ _ _ _ l => l

mutual
def depth : Tree → Nat
  | .mk _ _ _ _ _ l => depths l + 1
def depths : List Tree → Nat
  | [] => 0
  | t :: r => max (depth t) (depths r)
end
mutual
def count : Tree → Nat
  | .mk _ _ _ _ _ l => counts l + 1
def counts : List Tree → Nat
  | [] => 0
  | t :: r => count t + counts r
end
mutual
def left : Tree → Nat → Int → Int
  | .mk _ _ _ _ t l, d, n => if d = 0 then -1 else lefts l (d - 1) (n - 1 - ((t.length / 8 : Nat) : Int))
def lefts : List Tree → Nat → Int → Int
  | [], _, n => n
  | t :: r, d, n => if n < 0 then n else lefts r d (left t d n)
end
mutual
theorem left_le : ∀ (t : Tree) (d : Nat) (n : Int), 0 ≤ left t d n → depth t ≤ d ∧ (count t : Int) + left t d n ≤ n
  | .mk _ _ _ _ t l, d, n => by
    intro h
    unfold left at h ⊢
    unfold depth count
    by_cases hd : d = 0
    · rw [if_pos hd] at h
      omega
    · rw [if_neg hd] at h ⊢
      have := lefts_le l (d - 1) _ h
      omega
theorem lefts_le : ∀ (l : List Tree) (d : Nat) (n : Int), 0 ≤ lefts l d n → depths l ≤ d ∧ (counts l : Int) + lefts l d n ≤ n
  | [], d, n => by
    intro h
    unfold lefts at h ⊢
    unfold depths counts
    omega
  | t :: r, d, n => by
    intro h
    unfold lefts at h ⊢
    unfold depths counts
    by_cases hn : n < 0
    · rw [if_pos hn] at h
      omega
    · rw [if_neg hn] at h ⊢
      have h2 := lefts_le r d _ h
      have h1 := left_le t d n (by have := h2.2; omega)
      exact ⟨Nat.max_le.2 ⟨h1.1, h2.1⟩, by have := h1.2; have := h2.2; omega⟩
end
theorem lefts_neg : ∀ (l : List Tree) (d : Nat) (n : Int), n < 0 → lefts l d n = n
  | [], _, _, _ => by unfold lefts; rfl
  | t :: r, d, n, h => by unfold lefts; rw [if_pos h]
theorem lefts_drop {l : List Tree} {k : Nat} (h : k < l.length) (d : Nat) (n : Int) (hn : 0 ≤ n) : lefts (l.drop k) d n = lefts (l.drop (k + 1)) d (left l[k] d n) := by
  rw [List.drop_eq_getElem_cons h, lefts, if_neg (by omega)]
/-- Of at most 3000, 60 within one another. -/
def few (t : Tree) : Bool := decide (0 ≤ left t 60 3000)
theorem few_small {t : Tree} (h : few t = true) : depth t ≤ 60 ∧ count t ≤ 3000 := by
  have := left_le t 60 3000 (of_decide_eq_true h)
  have h2 := of_decide_eq_true h
  omega

def array (k : Int) : Bool := decide (1 ≤ k) && decide (k ≤ 16) && !(k == 10)
def item (k : Int) : Bool := decide (1 ≤ k) && decide (k ≤ 9) && !(k == 8)
def func (k : Int) : Bool := decide (17 ≤ k) && decide (k ≤ 24)
def plain (k : Int) : Bool := decide (17 ≤ k) && decide (k ≤ 21)
def monops : List Int := [0x2F, 0x233F, 0x5C, 0x2340, 0xA8, 0x2368]
def dyops : List Int := [0x2E, 0x2218, 0x2364, 0x2363]
def heads : List Int := [0x2F, 0x233F, 0x5C, 0x2340]
def glyph (c : Int) : Bool := (Tk.cls c == 4) || heads.contains c
def letter (b : UInt8) : Bool := Tk.cls (b.toNat : Int) == 2
def digit (b : UInt8) : Bool := decide (48 ≤ b.toNat) && decide (b.toNat ≤ 57)
def great (s : List UInt8) : Bool := decide (65 ≤ (s.getD 0 0).toNat) && decide ((s.getD 0 0).toNat ≤ 90)
/-- May a text be a name? -/
def named (s : List UInt8) (function : Bool) : Bool :=
  !s.isEmpty && decide (s.length ≤ 16) && letter (s.getD 0 0) && s.all (fun b => letter b || digit b) && (great s == function)
def port (n : Int) : Bool := decide (0 ≤ n) && decide (n < 8)
def zero (n : Rt.Nm) : Bool := !n.neg && n.top.isEmpty && n.bot.isEmpty
/-- The fields that it has to have, and no others. -/
def held (k o : Int) (m : List UInt8) (n : Rt.Nm) (t : List Int) : Bool :=
  (if k = 1 then Rt.right n else zero n) && (if k = 2 then decide (t.length ≤ 2048) && t.all Gl.may else t.isEmpty) &&
  (if k = 3 ∨ k = 13 ∨ k = 14 ∨ k = 15 then named m false else if k = 18 ∨ k = 27 then named m true else m.isEmpty) &&
  (if k = 6 ∨ k = 7 ∨ k = 16 then port o else if k = 17 then glyph o else if k = 21 then (o == 0) || (o == 1) else if k = 22 then monops.contains o else if k = 23 then dyops.contains o else o == 0)
/-- .. the parts, by their kinds. -/
def parts : List Int → List (Int → Bool) → Bool
  | [], [] => true
  | k :: r, f :: s => f k && parts r s
  | _, _ => false
def place (k : Int) : Bool := array k || (k == 10)
def made (k o : Int) (l : List Int) : Bool :=
  if k = 8 then decide (2 ≤ l.length) && l.all array
  else if k = 9 ∨ k = 14 then decide (2 ≤ l.length) && array (l.getD 0 0) && (l.drop 1).all place
  else if k = 11 ∨ k = 15 then parts l [func, array]
  else if k = 12 then parts l [array, func, array]
  else if k = 13 ∨ k = 16 then parts l [array]
  else if k = 22 ∨ k = 27 then parts l [func]
  else if k = 23 then parts l [func, fun x => (plain x && !(o == 0x2364)) || (array x && ((o == 0x2364) || (o == 0x2363)))]
  else if k = 24 then parts l [plain]
  else if k = 25 ∨ k = 26 then parts l [array, array]
  else if k = 20 then !l.isEmpty && l.all (fun x => array x || (x == 27) || (x == 25) || (x == 26))
  else if k = 28 then !l.isEmpty && l.all (fun x => array x || (x == 27))
  else if 1 ≤ k ∧ k ≤ 21 then l.isEmpty
  else false
def one : Tree → Bool
  | .mk k o m n t l => held k o m n t && made k o (l.map kind)
mutual
def all : Tree → Bool
  | .mk k o m n t l => one (.mk k o m n t l) && alls l
def alls : List Tree → Bool
  | [] => true
  | t :: r => all t && alls r
end
def right (t : Tree) : Bool := decide (depth t ≤ 40) && decide (count t ≤ 2048) && all t

mutual
def go : Tree → Nat → Nat → Bool × Nat
  | .mk k o m n t l, d, q => if d = 0 ∨ q = 0 then (false, q) else if one (.mk k o m n t l) then gos l (d - 1) (q - 1) else (false, q - 1)
def gos : List Tree → Nat → Nat → Bool × Nat
  | [], _, q => (true, q)
  | t :: r, d, q => if (go t d q).1 then gos r d (go t d q).2 else (false, (go t d q).2)
end
mutual
theorem go_eq : ∀ (t : Tree) (d q : Nat), (go t d q).1 = (decide (depth t ≤ d) && decide (count t ≤ q) && all t) ∧ ((go t d q).1 = true → (go t d q).2 + count t = q)
  | .mk k o m n t l, d, q => by
    unfold go depth count all
    by_cases h0 : d = 0 ∨ q = 0
    · rw [if_pos h0]
      refine ⟨?_, fun h => by cases h⟩
      rcases h0 with h0 | h0
      · rw [decide_eq_false (by omega : ¬ depths l + 1 ≤ d)]; rfl
      · rw [decide_eq_false (by omega : ¬ counts l + 1 ≤ q), Bool.and_false]; rfl
    · rw [if_neg h0]
      cases h1 : one (.mk k o m n t l) with
      | false =>
        rw [if_neg (by simp), Bool.false_and, Bool.and_false]
        exact ⟨rfl, fun h => by cases h⟩
      | true =>
        rw [if_pos rfl, Bool.true_and]
        have ih := gos_eq l (d - 1) (q - 1)
        refine ⟨?_, fun h => by have := ih.2 h; omega⟩
        rw [ih.1]
        congr 2
        · exact decide_eq_decide.2 (by omega)
        · exact decide_eq_decide.2 (by omega)
theorem gos_eq : ∀ (l : List Tree) (d q : Nat), (gos l d q).1 = (decide (depths l ≤ d) && decide (counts l ≤ q) && alls l) ∧ ((gos l d q).1 = true → (gos l d q).2 + counts l = q)
  | [], d, q => by
    unfold gos depths counts alls
    simp
  | t :: r, d, q => by
    unfold gos depths counts alls
    have i1 := go_eq t d q
    have i2 := gos_eq r d (go t d q).2
    cases hg : (go t d q).1 with
    | false =>
      rw [if_neg (by simp)]
      refine ⟨?_, fun h => by cases h⟩
      rw [hg] at i1
      by_cases hd : depth t ≤ d
      · by_cases hc : count t ≤ q
        · rw [decide_eq_true hd, decide_eq_true hc] at i1
          have : all t = false := by simpa using i1.1.symm
          rw [this, Bool.false_and, Bool.and_false]
        · rw [decide_eq_false (by omega : ¬ count t + counts r ≤ q), Bool.and_false]; rfl
      · rw [decide_eq_false (by omega : ¬ max (depth t) (depths r) ≤ d)]; rfl
    | true =>
      rw [if_pos rfl]
      have e := i1.2 hg
      rw [hg] at i1
      have h3 := i1.1.symm
      simp only [Bool.and_eq_true, decide_eq_true_eq] at h3
      refine ⟨?_, fun h => by have := i2.2 h; omega⟩
      rw [i2.1, h3.2, Bool.true_and]
      congr 2
      · exact decide_eq_decide.2 (by omega)
      · exact decide_eq_decide.2 (by omega)
end
theorem go_right (t : Tree) : (go t 40 2048).1 = right t := (go_eq t 40 2048).1
end Tr

/-
  Expressions, plain: the program's look at a number; the document's rules; the texts.
-/
namespace Tr
open Go

def trimmed (l : List Nat) : Bool := decide (l.length ≤ 32) && (l.isEmpty || !(l.getLastD 0 == 0))
def isOne (l : List Nat) : Bool := l == [1]
def ratio (n : Rt.Nm) : Bool :=
  if trimmed n.top && trimmed n.bot && !n.bot.isEmpty && !(n.top.isEmpty && n.neg) then isOne n.bot || (Nt.digs (Nat.gcd (Nt.val n.top) (Nt.val n.bot)) == [1]) else false
theorem trimmed_iff (l : List Nat) : trimmed l = true ↔ l.length ≤ 32 ∧ Nt.Top l := by
  unfold trimmed
  simp only [Bool.and_eq_true, decide_eq_true_eq, Bool.or_eq_true, Bool.not_eq_true', beq_eq_false_iff_ne, List.isEmpty_iff]
  refine and_congr_right fun _ => ?_
  constructor
  · rintro (h | h) hne
    · exact absurd h hne
    · rwa [List.getLastD_eq_getLast?, List.getLast?_eq_some_getLast hne] at h
  · intro h
    by_cases hne : l = []
    · exact .inl hne
    · refine .inr ?_
      have := h hne
      rwa [List.getLastD_eq_getLast?, List.getLast?_eq_some_getLast hne]
theorem digs_one : Nt.digs 1 = [1] := by rw [Nt.digs_pos (by omega)]; simp [Nt.digs_zero]
theorem ratio_right {n : Rt.Nm} (o1 : Nt.Ok n.top) (o2 : Nt.Ok n.bot) : ratio n = Rt.right n := by
  rw [Bool.eq_iff_iff, Rt.right_iff o1 o2]
  have hd : Nt.digs (Nat.gcd (Nt.val n.top) (Nt.val n.bot)) = [1] ↔ Nat.gcd (Nt.val n.top) (Nt.val n.bot) = 1 := by
    constructor
    · intro h; exact Nt.digs_inj (h.trans digs_one.symm)
    · intro h; rw [h, digs_one]
  unfold ratio
  have h1 : (trimmed n.top && trimmed n.bot && !n.bot.isEmpty && !(n.top.isEmpty && n.neg)) = true ↔ n.top.length ≤ 32 ∧ n.bot.length ≤ 32 ∧ Nt.Top n.top ∧ Nt.Top n.bot ∧ n.bot ≠ [] ∧ (n.top = [] → n.neg = false) := by
    simp only [Bool.and_eq_true, trimmed_iff]
    constructor
    · rintro ⟨⟨⟨⟨a, b⟩, c, d⟩, e⟩, f⟩
      refine ⟨a, c, b, d, ?_, ?_⟩
      · rintro h; rw [h] at e; cases e
      · intro h; rw [h] at f; simpa using f
    · rintro ⟨a, b, c, d, e, f⟩
      refine ⟨⟨⟨⟨a, c⟩, b, d⟩, ?_⟩, ?_⟩
      · cases hb : n.bot with
        | nil => exact absurd hb e
        | cons _ _ => rfl
      · cases ht : n.top with
        | nil => simpa using f ht
        | cons _ _ => rfl
  by_cases hc : (trimmed n.top && trimmed n.bot && !n.bot.isEmpty && !(n.top.isEmpty && n.neg)) = true
  · rw [if_pos hc]
    have h2 := h1.1 hc
    constructor
    · intro h
      refine ⟨h2.1, h2.2.1, h2.2.2.1, h2.2.2.2.1, h2.2.2.2.2.1, h2.2.2.2.2.2, ?_⟩
      simp only [Bool.or_eq_true, isOne, beq_iff_eq] at h
      rcases h with h | h
      · rw [h]; simp [Nt.val]
      · exact hd.1 h
    · rintro ⟨_, _, _, _, _, _, h⟩
      simp only [Bool.or_eq_true, isOne, beq_iff_eq]
      exact .inr (hd.2 h)
  · rw [if_neg hc]
    constructor
    · intro h; cases h
    · rintro ⟨a, b, c, d, e, f, g⟩; exact absurd (h1.2 ⟨a, b, c, d, e, f⟩) hc

def fields (o : Int) (m : List UInt8) (n : Rt.Nm) (t : List Int) : Int :=
  (if o = 0 then 0 else 1) + (if m = [] then 0 else 2) + (if zero n then 0 else 4) + (if t = [] then 0 else 8)
def letters (c : UInt8) (k : Int) : Bool := if c = 97 then array k else if c = 102 then func k else if c = 112 then plain k else if c = 120 then place k else false
def at_ (s : List UInt8) (i : Nat) : UInt8 := if i < s.length then s.getD i 0 else s.getD (s.length - 1) 0
def kidsR (l : List Int) (s : List UInt8) (more : Bool) : Bool :=
  if l.length < s.length ∨ (s.length < l.length ∧ more = false) then false else (List.range l.length).all fun i => letters (at_ s i) (l.getD i 0)
def statements (l : List Int) (braces : Bool) : Bool := l.all (fun x => array x || (x == 27) || (braces && ((x == 25) || (x == 26)))) && !l.isEmpty
def operators (k o : Int) (f : Int) (l : List Int) : Bool :=
  if f = 1 then
    if k = 22 then monops.contains o && kidsR l [102] false
    else if dyops.contains o = false ∨ l.length ≠ 2 ∨ func (l.getD 0 0) = false then false
    else if o = 0x2364 then array (l.getD 1 0)
    else plain (l.getD 1 0) || ((o == 0x2363) && array (l.getD 1 0))
  else false
def leafR (k o : Int) (m : List UInt8) (n : Rt.Nm) (t : List Int) (l : List Int) : Bool :=
  let f := fields o m n t
  if l = [] then
    if k = 1 then ((f == 4) || (f == 0)) && Rt.right n
    else if k = 2 then ((f == 8) || (f == 0)) && decide (t.length ≤ 2048) && t.all Gl.may
    else if k = 3 then (f == 2) && named m false
    else if k = 4 ∨ k = 5 ∨ k = 10 ∨ k = 19 then f == 0
    else if k = 6 ∨ k = 7 then ((f == 0) || (f == 1)) && port o
    else if k = 17 then (f == 1) && glyph o
    else if k = 18 then (f == 2) && named m true
    else if k = 21 then ((f == 0) || (f == 1)) && ((o == 0) || (o == 1))
    else false
  else false
def oneR (k o : Int) (m : List UInt8) (n : Rt.Nm) (t : List Int) (l : List Int) : Bool :=
  let f := fields o m n t
  if k = 8 then (f == 0) && kidsR l [97, 97] true
  else if k = 9 then (f == 0) && kidsR l [97, 120] true
  else if k = 11 then (f == 0) && kidsR l [102, 97] false
  else if k = 12 then (f == 0) && kidsR l [97, 102, 97] false
  else if k = 13 then (f == 2) && named m false && kidsR l [97] false
  else if k = 14 then (f == 2) && named m false && kidsR l [97, 120] true
  else if k = 15 then (f == 2) && named m false && kidsR l [102, 97] false
  else if k = 16 then ((f == 0) || (f == 1)) && port o && kidsR l [97] false
  else if k = 20 then (f == 0) && statements l true
  else if k = 22 ∨ k = 23 then operators k o f l
  else if k = 24 then (f == 0) && kidsR l [112] false
  else if k = 25 ∨ k = 26 then (f == 0) && kidsR l [97, 97] false
  else if k = 27 then (f == 2) && named m true && kidsR l [102] false
  else if k = 28 then (f == 0) && statements l false
  else leafR k o m n t l
theorem named_ne {m : List UInt8} {b : Bool} (h : named m b = true) : m ≠ [] := by rintro rfl; simp [named] at h
theorem range_all (l : List Int) (p : Nat → Int → Bool) : (List.range l.length).all (fun i => p i (l.getD i 0)) = (l.zipIdx.all fun x => p x.2 x.1) := by
  rw [Bool.eq_iff_iff]
  simp only [List.all_eq_true, List.mem_range]
  constructor
  · rintro h ⟨x, i⟩ hx
    obtain ⟨h1, h2⟩ := List.mem_zipIdx' hx
    have := h i h1
    rwa [List.getD_eq_getElem?_getD, List.getElem?_eq_getElem h1, Option.getD_some, ← h2] at this
  · intro h i hi
    have := h (l[i], i) (List.mem_zipIdx_iff_getElem?.2 (by simp [hi]))
    rwa [List.getD_eq_getElem?_getD, List.getElem?_eq_getElem hi]
theorem kids_1 (l : List Int) (c : UInt8) : kidsR l [c] false = parts l [letters c] := by
  match l with
  | [] => simp [kidsR, parts]
  | [a] => simp [kidsR, parts, at_]
  | a :: b :: r => simp [kidsR, parts]
theorem kids_2 (l : List Int) (c d : UInt8) : kidsR l [c, d] false = parts l [letters c, letters d] := by
  match l with
  | [] => simp [kidsR, parts]
  | [a] => simp [kidsR, parts]
  | [a, b] => simp [kidsR, parts, at_, List.range_succ]
  | a :: b :: x :: r => simp [kidsR, parts]
theorem kids_3 (l : List Int) (c d e : UInt8) : kidsR l [c, d, e] false = parts l [letters c, letters d, letters e] := by
  match l with
  | [] => simp [kidsR, parts]
  | [a] => simp [kidsR, parts]
  | [a, b] => simp [kidsR, parts]
  | [a, b, x] => simp [kidsR, parts, at_, List.range_succ]
  | a :: b :: x :: y :: r => simp [kidsR, parts]
theorem kids_more (l : List Int) (c d : UInt8) : kidsR l [c, d] true = (decide (2 ≤ l.length) && letters c (l.getD 0 0) && (l.drop 1).all (letters d)) := by
  match l with
  | [] => simp [kidsR]
  | [a] => simp [kidsR]
  | a :: b :: r =>
    rw [kidsR, if_neg (by simp)]
    rw [range_all (a :: b :: r) (fun i x => letters (at_ [c, d] i) x)]
    rw [Bool.eq_iff_iff]
    simp only [List.all_eq_true, Bool.and_eq_true, List.zipIdx_cons, List.mem_cons, List.drop_succ_cons, List.drop_zero]
    constructor
    · intro h
      refine ⟨⟨by simp, ?_⟩, ?_⟩
      · have := h (a, 0) (.inl rfl)
        simpa [at_] using this
      · intro x hx
        rcases hx with rfl | hx
        · have := h (x, 1) (.inr (.inl rfl))
          simpa [at_] using this
        · obtain ⟨i, hi, rfl⟩ := List.mem_iff_getElem.1 hx
          have := h (r[i], 2 + i) (.inr (.inr (by rw [List.mem_zipIdx_iff_le_and_getElem?_sub]; simp [hi])))
          have h3 : at_ [c, d] (2 + i) = d := by
            unfold at_
            rw [if_neg (by simp)]; rfl
          dsimp only at this
          rwa [h3] at this
    · rintro ⟨⟨_, h1⟩, h2⟩ ⟨x, i⟩ hx
      rcases hx with hx | hx | hx
      · injection hx with e1 e2; subst e1 e2; simpa [at_] using h1
      · injection hx with e1 e2; subst e1 e2; have := h2 x (.inl rfl); simpa [at_] using this
      · rw [List.mem_zipIdx_iff_le_and_getElem?_sub] at hx
        dsimp only at hx ⊢
        have := h2 x (.inr (List.mem_of_getElem? hx.2))
        have h3 : at_ [c, d] i = d := by
          unfold at_
          rw [if_neg (by simp; omega)]; rfl
        rw [h3]; exact this
theorem letters_a : letters 97 = array := by funext k; rfl
theorem letters_f : letters 102 = func := by funext k; rfl
theorem letters_p : letters 112 = plain := by funext k; rfl
theorem letters_x : letters 120 = place := by funext k; rfl
theorem fields_cases (o : Int) (m : List UInt8) (n : Rt.Nm) (t : List Int) :
    ((fields o m n t == 0) = ((o == 0) && m.isEmpty && zero n && t.isEmpty)) ∧ ((fields o m n t == 1) = (!(o == 0) && m.isEmpty && zero n && t.isEmpty)) ∧
    ((fields o m n t == 2) = ((o == 0) && !m.isEmpty && zero n && t.isEmpty)) ∧ ((fields o m n t == 4) = ((o == 0) && m.isEmpty && !zero n && t.isEmpty)) ∧
    ((fields o m n t == 8) = ((o == 0) && m.isEmpty && zero n && !t.isEmpty)) := by
  unfold fields
  by_cases h1 : o = 0 <;> cases m <;> cases h3 : zero n <;> cases t <;> simp [h1]
theorem glyph_0 : glyph 0 = false := by decide
theorem mon_0 : monops.contains 0 = false := by decide
theorem dy_0 : dyops.contains 0 = false := by decide
theorem kind_cases (k : Int) : (k < 1 ∨ 28 < k) ∨ k = 1 ∨ k = 2 ∨ k = 3 ∨ k = 4 ∨ k = 5 ∨ k = 6 ∨ k = 7 ∨ k = 8 ∨ k = 9 ∨ k = 10 ∨ k = 11 ∨ k = 12 ∨ k = 13 ∨ k = 14 ∨ k = 15 ∨ k = 16 ∨ k = 17 ∨ k = 18 ∨ k = 19 ∨ k = 20 ∨ k = 21 ∨ k = 22 ∨ k = 23 ∨ k = 24 ∨ k = 25 ∨ k = 26 ∨ k = 27 ∨ k = 28 := by omega
theorem named_e {m : List UInt8} {b : Bool} : named m b = (named m b && !m.isEmpty) := by
  cases h : named m b with
  | false => rfl
  | true =>
    have := named_ne h
    cases m with
    | nil => exact absurd rfl this
    | cons _ _ => rfl
theorem glyph_e (o : Int) : glyph o = (glyph o && !(o == 0)) := by
  by_cases h : o = 0
  · subst h; rw [glyph_0]; rfl
  · rw [show (o == 0) = false by simpa using h]; simp
theorem mon_e (o : Int) : monops.contains o = (monops.contains o && !(o == 0)) := by
  by_cases h : o = 0
  · subst h; rw [mon_0]; rfl
  · rw [show (o == 0) = false by simpa using h]; simp
theorem dy_e (o : Int) : dyops.contains o = (dyops.contains o && !(o == 0)) := by
  by_cases h : o = 0
  · subst h; rw [dy_0]; rfl
  · rw [show (o == 0) = false by simpa using h]; simp
theorem op23 (o : Int) (m : List UInt8) (n : Rt.Nm) (t l : List Int) (f1 : (fields o m n t == 1) = (!(o == 0) && m.isEmpty && zero n && t.isEmpty)) : operators 23 o (fields o m n t) l = (zero n && t.isEmpty && m.isEmpty && dyops.contains o && parts l [func, fun x => (plain x && !(o == 0x2364)) || (array x && ((o == 0x2364) || (o == 0x2363)))]) := by
  unfold operators
  by_cases hf : fields o m n t = 1
  · rw [if_pos hf, if_neg (by decide)]
    have hf' : (fields o m n t == 1) = true := by simpa using hf
    rw [f1] at hf'
    simp only [Bool.and_eq_true] at hf'
    rw [hf'.1.1.2, hf'.1.2, hf'.2]
    cases hd : dyops.contains o with
    | false => simp
    | true =>
      match l with
      | [] => simp [parts]
      | [a] => simp [parts]
      | [a, b] =>
        cases hfa : func a with
        | false => simp [parts, hfa]
        | true =>
          by_cases ho : o = 9060
          · subst ho; simp [parts, hfa]
          · have ho' : (o == 9060) = false := by simpa using ho
            simp [parts, hfa, ho, ho', Bool.and_comm]
      | a :: b :: c :: r => simp [parts]
  · rw [if_neg hf]
    have hf' : (fields o m n t == 1) = false := by simpa using hf
    rw [f1] at hf'
    rw [dy_e]
    revert hf'
    cases (o == 0) <;> cases m.isEmpty <;> cases zero n <;> cases t.isEmpty <;> simp
theorem op22 (o : Int) (m : List UInt8) (n : Rt.Nm) (t l : List Int) (f1 : (fields o m n t == 1) = (!(o == 0) && m.isEmpty && zero n && t.isEmpty)) : operators 22 o (fields o m n t) l = (zero n && t.isEmpty && m.isEmpty && monops.contains o && parts l [func]) := by
  unfold operators
  rw [kids_1, letters_f]
  by_cases hf : fields o m n t = 1
  · rw [if_pos hf, if_pos rfl]
    have hf' : (fields o m n t == 1) = true := by simpa using hf
    rw [f1] at hf'
    simp only [Bool.and_eq_true] at hf'
    rw [hf'.1.1.2, hf'.1.2, hf'.2]
    simp
  · rw [if_neg hf]
    have hf' : (fields o m n t == 1) = false := by simpa using hf
    rw [f1] at hf'
    rw [mon_e]
    revert hf'
    cases (o == 0) <;> cases m.isEmpty <;> cases zero n <;> cases t.isEmpty <;> simp
theorem one_eq (k o : Int) (m : List UInt8) (n : Rt.Nm) (t : List Int) (l : List Int) : oneR k o m n t l = (held k o m n t && made k o l) := by
  obtain ⟨f0, f1, f2, f4, f8⟩ := fields_cases o m n t
  unfold oneR leafR held made
  have e1 := @named_e m false
  have e2 := @named_e m true
  have e3 := glyph_e o
  have e4 := mon_e o
  have e5 := dy_e o
  have hl : ∀ X : Bool, (if l = [] then X else false) = (X && l.isEmpty) := fun X => by cases l <;> simp
  simp only [f0, f2, f4, f8, kids_1, kids_2, kids_3, kids_more, letters_a, letters_f, letters_p, letters_x]
  rcases kind_cases k with h | h | h | h | h | h | h | h | h | h | h | h | h | h | h | h | h | h | h | h | h | h | h | h | h | h | h | h | h
  · simp only [show ¬ k = 1 by omega, show ¬ k = 2 by omega, show ¬ k = 3 by omega, show ¬ k = 8 by omega, show ¬ k = 9 by omega, show ¬ k = 11 by omega, show ¬ k = 12 by omega, show ¬ k = 13 by omega, show ¬ k = 14 by omega, show ¬ k = 15 by omega, show ¬ k = 16 by omega, show ¬ k = 20 by omega, show ¬ k = 22 by omega, show ¬ k = 23 by omega, show ¬ k = 24 by omega, show ¬ k = 25 by omega, show ¬ k = 26 by omega, show ¬ k = 27 by omega, show ¬ k = 28 by omega, show ¬ k = 4 by omega, show ¬ k = 5 by omega, show ¬ k = 10 by omega, show ¬ k = 19 by omega, show ¬ k = 6 by omega, show ¬ k = 7 by omega, show ¬ k = 17 by omega, show ¬ k = 18 by omega, show ¬ k = 21 by omega, show ¬ (1 ≤ k ∧ k ≤ 21) by omega, or_self, if_false, ite_self, Bool.and_false]
  all_goals (subst h; simp (config := {decide := true}) only [if_true, if_false])
  case inr.inr.inr.inr.inr.inr.inr.inr.inr.inr.inr.inr.inr.inr.inr.inr.inr.inr.inr.inr.inr.inr.inr.inl => exact op23 o m n t l f1
  case inr.inr.inr.inr.inr.inr.inr.inr.inr.inr.inr.inr.inr.inr.inr.inr.inr.inr.inr.inr.inr.inr.inl => exact op22 o m n t l f1
  case inr.inr.inr.inr.inr.inr.inr.inr.inl =>
    have h8 : (decide (2 ≤ l.length) && array (l.getD 0 0) && (l.drop 1).all array) = (decide (2 ≤ l.length) && l.all array) := by
      match l with
      | [] => rfl
      | [a] => rfl
      | a :: b :: r => simp
    rw [h8]
    cases (o == 0) <;> cases m.isEmpty <;> cases zero n <;> cases t.isEmpty <;> simp
  all_goals try simp only [hl]
  all_goals try simp only [statements, f1]
  all_goals (try rw [e1]); (try rw [e2]); (try rw [e3]); (try rw [e4])
  all_goals clear e1 e2 e3 e4 e5 f0 f1 f2 f4 f8 hl
  all_goals (cases (o == 0) <;> cases m.isEmpty <;> cases zero n <;> cases t.isEmpty <;> simp [Bool.and_comm, Bool.or_assoc])
end Tr
