/-
  Texts of this proof, joined (by wip/bin/bundle.py): GlyMath2, TokMath2, ArrMath, Arr, Same1, Tok2, GlyMath3, LenMath, Nat1, Nat2.
-/
import Derived.Test.YtfiefglagknclaaGreatDoorM1
import Derived.Deep.QuietTactic
import Derived.BigQuiet
import Derived.LoopTactic
import Derived.Outline
import Derived.Lib.Strings
/-
  Characters and bytes, plain: all characters of a text.
-/
namespace Gl
open Go
theorem read_some {s : ByteArray} {i c n : Nat} (h : read s i = some (c, n)) : Utf8.decode s i = (c, n) ∧ ¬(c = 65533 ∧ n = 1) := by
  unfold read at h
  split at h
  · cases h
  · next hne =>
    injection h with h
    refine ⟨h, ?_⟩
    rintro ⟨rfl, rfl⟩
    exact hne h
theorem read_pos {s : ByteArray} {i c n : Nat} (h : read s i = some (c, n)) : 1 ≤ n ∧ n ≤ 4 := by
  have h := (read_some h).1
  rw [decode_eq] at h
  repeat' split at h
  all_goals (injection h with h1 h2; omega)
theorem read_may {s : ByteArray} {i c n : Nat} (hi : i < s.size) (h : read s i = some (c, n)) : may (c : Int) = true := by
  have hr := refRead_eq s i hi
  rw [h] at hr
  unfold refRead at hr
  split at hr
  · cases hr
  · split at hr
    · next hm => injection hr with hr; injection hr with h1 h2; subst h1; exact hm.1
    · cases hr
theorem read_le {s : ByteArray} {i c n : Nat} (hi : i < s.size) (h : read s i = some (c, n)) : i + n ≤ s.size := by
  have h := (read_some h).1
  rw [decode_eq] at h
  repeat' split at h
  all_goals (injection h with h1 h2; omega)
/-- The characters from a byte on: so many at the most; and where there is none. -/
def decF (s : ByteArray) : Nat → Nat → List Nat × Option Nat
  | 0, _ => ([], none)
  | f + 1, i => if s.size ≤ i then ([], none) else match read s i with
    | none => ([], some i)
    | some (c, n) => (c :: (decF s f (i + n)).1, (decF s f (i + n)).2)
theorem decF_fuel {s : ByteArray} : ∀ {f g i : Nat}, s.size - i < f → s.size - i < g → decF s f i = decF s g i
  | 0, _, _, h, _ => by omega
  | _, 0, _, _, h => by omega
  | f + 1, g + 1, i, h1, h2 => by
    unfold decF
    by_cases hi : s.size ≤ i
    · rw [if_pos hi, if_pos hi]
    · rw [if_neg hi, if_neg hi]
      cases hr : read s i with
      | none => rfl
      | some p =>
        obtain ⟨c, n⟩ := p
        have := read_pos hr
        have e := decF_fuel (s := s) (f := f) (g := g) (i := i + n) (by omega) (by omega)
        simp only [e]
/-- The characters from a byte on, and where there is none. -/
def dec (s : ByteArray) (i : Nat) : List Nat × Option Nat := decF s (s.size + 1 - i) i
theorem dec_end {s : ByteArray} {i : Nat} (h : s.size ≤ i) : dec s i = ([], none) := by
  unfold dec
  cases s.size + 1 - i with
  | zero => rfl
  | succ k => unfold decF; rw [if_pos h]
theorem dec_bad {s : ByteArray} {i : Nat} (h : i < s.size) (hr : read s i = none) : dec s i = ([], some i) := by
  unfold dec
  rw [show s.size + 1 - i = (s.size - i) + 1 by omega]
  unfold decF
  rw [if_neg (by omega), hr]
theorem dec_step {s : ByteArray} {i c n : Nat} (h : i < s.size) (hr : read s i = some (c, n)) : dec s i = (c :: (dec s (i + n)).1, (dec s (i + n)).2) := by
  have hp := read_pos hr
  have hle := read_le h hr
  have e := decF_fuel (s := s) (f := s.size - i) (g := s.size + 1 - (i + n)) (i := i + n) (by omega) (by omega)
  unfold dec
  rw [show s.size + 1 - i = (s.size - i) + 1 by omega]
  conv => lhs; unfold decF
  rw [if_neg (by omega), hr]
  simp only [e]
theorem get_at {s : ByteArray} {i : Nat} (h : i < s.size) : s.get! i = s[i] := getElem!_pos s.data i h
theorem get_out {s : ByteArray} {i : Nat} (h : s.size ≤ i) : s.get! i = default := getElem!_neg s.data i (by show ¬ i < s.size; omega)
theorem by_right (a s : ByteArray) (i : Nat) : by_ (a ++ s) (a.size + i) = by_ s i := by
  have hsz : (a ++ s).size = a.size + s.size := ByteArray.size_append
  unfold by_
  congr 1
  by_cases h : i < s.size
  · rw [get_at (show a.size + i < (a ++ s).size by omega), get_at h, ByteArray.getElem_append_right (by omega)]
    congr 1
    omega
  · rw [get_out (by omega), get_out (by omega)]
theorem by_left (s t : ByteArray) {i : Nat} (h : i < s.size) : by_ (s ++ t) i = by_ s i := by
  have hsz : (s ++ t).size = s.size + t.size := ByteArray.size_append
  unfold by_
  congr 1
  rw [get_at (show i < (s ++ t).size by omega), get_at h, ByteArray.getElem_append_left h]
theorem decode_right (a s : ByteArray) (i : Nat) : Utf8.decode (a ++ s) (a.size + i) = Utf8.decode s i := by
  have e1 := by_right a s i
  have e2 := by_right a s (i + 1)
  have e3 := by_right a s (i + 2)
  have e4 := by_right a s (i + 3)
  rw [decode_eq, decode_eq]
  simp only [Nat.add_assoc, e1, e2, e3, e4, ByteArray.size_append, Nat.add_lt_add_iff_left]
theorem read_right (a s : ByteArray) (i : Nat) : read (a ++ s) (a.size + i) = read s i := by unfold read; rw [decode_right]
theorem read_left {s t : ByteArray} {i c n : Nat} (hi : i < s.size) (h : read s i = some (c, n)) : read (s ++ t) i = some (c, n) := by
  have hd := (read_some h).1
  have hne := (read_some h).2
  have hsz : (s ++ t).size = s.size + t.size := ByteArray.size_append
  have key : Utf8.decode (s ++ t) i = (c, n) := by
    have b0 := by_left s t hi
    have hl := by_lt s i
    rw [decode_eq] at hd ⊢
    rw [b0]
    have hE : Utf8.runeError = 65533 := rfl
    by_cases a : by_ s i < 128
    · rw [if_pos a] at hd ⊢; exact hd
    · rw [if_neg a] at hd ⊢
      by_cases h2 : by_ s i / 32 = 6 ∧ i + 1 < s.size ∧ by_ s (i + 1) / 64 = 2
      · have b1 := by_left s t h2.2.1
        rw [if_pos h2] at hd
        rw [b1, if_pos ⟨h2.1, by omega, h2.2.2⟩]
        exact hd
      · rw [if_neg h2] at hd
        by_cases h3 : by_ s i / 16 = 14 ∧ (i + 1 < s.size ∧ by_ s (i + 1) / 64 = 2) ∧ (i + 2 < s.size ∧ by_ s (i + 2) / 64 = 2)
        · have b1 := by_left s t h3.2.1.1
          have b2 := by_left s t h3.2.2.1
          rw [if_pos h3] at hd
          rw [b1, b2, if_neg (by omega), if_pos ⟨h3.1, ⟨by omega, h3.2.1.2⟩, by omega, h3.2.2.2⟩]
          exact hd
        · rw [if_neg h3] at hd
          by_cases h4 : by_ s i / 8 = 30 ∧ (i + 1 < s.size ∧ by_ s (i + 1) / 64 = 2) ∧ (i + 2 < s.size ∧ by_ s (i + 2) / 64 = 2) ∧ (i + 3 < s.size ∧ by_ s (i + 3) / 64 = 2)
          · have b1 := by_left s t h4.2.1.1
            have b2 := by_left s t h4.2.2.1.1
            have b3 := by_left s t h4.2.2.2.1
            rw [if_pos h4] at hd
            rw [b1, b2, b3, if_neg (by omega), if_neg (by omega), if_pos ⟨h4.1, ⟨by omega, h4.2.1.2⟩, ⟨by omega, h4.2.2.1.2⟩, by omega, h4.2.2.2.2⟩]
            exact hd
          · rw [if_neg h4] at hd
            injection hd with h5 h6
            exact absurd ⟨by omega, by omega⟩ hne
  unfold read
  rw [key, if_neg]
  intro e
  injection e with h5 h6
  have hE : Utf8.runeError = 65533 := rfl
  exact hne ⟨by omega, h6⟩
theorem dec_right (a s : ByteArray) : ∀ (k i : Nat), s.size - i < k → dec (a ++ s) (a.size + i) = ((dec s i).1, (dec s i).2.map (a.size + ·))
  | 0, _, h => by omega
  | k + 1, i, hk => by
    have hsz : (a ++ s).size = a.size + s.size := ByteArray.size_append
    by_cases hi : i < s.size
    · have hr := read_right a s i
      cases h : read s i with
      | none =>
        rw [h] at hr
        rw [dec_bad hi h, dec_bad (by omega) hr]; rfl
      | some p =>
        obtain ⟨c, n⟩ := p
        rw [h] at hr
        have hp := read_pos h
        have ih := dec_right a s k (i + n) (by omega)
        rw [dec_step hi h, dec_step (by omega) hr, Nat.add_assoc, ih]
    · rw [dec_end (by omega), dec_end (by omega)]; rfl
theorem dec_left (s t : ByteArray) : ∀ (k i : Nat), s.size - i < k → i ≤ s.size → (dec s i).2 = none → dec (s ++ t) i = ((dec s i).1 ++ (dec t 0).1, (dec t 0).2.map (s.size + ·))
  | 0, _, h, _, _ => by omega
  | k + 1, i, hk, hle, hn => by
    have hsz : (s ++ t).size = s.size + t.size := ByteArray.size_append
    by_cases hi : i < s.size
    · cases h : read s i with
      | none => rw [dec_bad hi h] at hn; cases hn
      | some p =>
        obtain ⟨c, n⟩ := p
        have hp := read_pos h
        have hl := read_le hi h
        rw [dec_step hi h] at hn ⊢
        have ih := dec_left s t k (i + n) (by omega) hl hn
        rw [dec_step (by omega) (read_left hi h), ih]
        rfl
    · have e : i = s.size := by omega
      subst e
      rw [dec_end (Nat.le_refl _)]
      have := dec_right s t (t.size + 1) 0 (by omega)
      rw [Nat.add_zero] at this
      rw [this]; rfl
theorem dec_may {s : ByteArray} : ∀ (k i : Nat), s.size - i < k → ∀ c ∈ (dec s i).1, may (c : Int) = true
  | 0, _, h => by omega
  | k + 1, i, hk => by
    intro c hc
    by_cases hi : i < s.size
    · cases h : read s i with
      | none => rw [dec_bad hi h] at hc; cases hc
      | some p =>
        obtain ⟨c', n⟩ := p
        have hp := read_pos h
        rw [dec_step hi h] at hc
        rcases List.mem_cons.1 hc with rfl | hc
        · exact read_may hi h
        · exact dec_may k (i + n) (by omega) c hc
    · rw [dec_end (by omega)] at hc; cases hc
theorem dec_len {s : ByteArray} : ∀ (k i : Nat), s.size - i < k → (dec s i).1.length ≤ s.size - i
  | 0, _, h => by omega
  | k + 1, i, hk => by
    by_cases hi : i < s.size
    · cases h : read s i with
      | none => rw [dec_bad hi h]; exact Nat.zero_le _
      | some p =>
        obtain ⟨c', n⟩ := p
        have hp := read_pos h
        have hl := read_le hi h
        have ih := dec_len (s := s) k (i + n) (by omega)
        rw [dec_step hi h]
        simp only [List.length_cons]
        omega
    · rw [dec_end (by omega)]; exact Nat.zero_le _
/-- Numbers as Go's. -/
def ints (l : List Nat) : List Int := l.map fun (n : Nat) => (n : Int)
def badI : Option Nat → Int
  | none => -1
  | some i => i
end Gl

/-
  Tokens, plain: all tokens of a line; they rise; blanks ahead and a comment behind change nothing.
-/
namespace Tk
open Go
/-- The tokens from a place on, behind those that there are; the place where there is none, and the error. -/
def goF (l : List Int) : Nat → Nat → List Tok → List Tok × Nat × Int
  | 0, _, out => (out, 0, 0)
  | f + 1, i, out =>
    if l.length ≤ i ∨ l.getD i (-1) = 9053 then (out, 0, 0)
    else if cls (l.getD i (-1)) = 1 then goF l f (i + 1) out
    else if (read l i).2.2 ≠ 0 then ([], i, (read l i).2.2)
    else goF l f (i + (read l i).2.1) (out ++ [(read l i).1])
/-- What a line's characters are cut into. -/
def cutL (l : List Int) (bad : Option Nat) : List Tok × Nat × Int :=
  if 2000 < l.length then ([], 0, 7)
  else if (goF l (l.length + 1) 0 []).2.2 ≠ 0 then goF l (l.length + 1) 0 []
  else match bad with
    | none => goF l (l.length + 1) 0 []
    | some _ => ([], l.length, 1)
def cut (s : ByteArray) : List Tok × Nat × Int := cutL (Gl.ints (Gl.dec s 0).1) (Gl.dec s 0).2

theorem takeWhile_le (p : Int → Bool) : ∀ l : List Int, (l.takeWhile p).length ≤ l.length
  | [] => Nat.le_refl _
  | a :: r => by
    rw [List.takeWhile_cons]
    have := takeWhile_le p r
    split
    · simp; omega
    · simp
theorem takeWhile_app (p : Int → Bool) (x : Int) (r : List Int) (h : p x = false) : ∀ l : List Int, (l ++ x :: r).takeWhile p = l.takeWhile p
  | [] => by rw [List.nil_append, List.takeWhile_cons, h]; rfl
  | a :: l => by
    rw [List.cons_append, List.takeWhile_cons, List.takeWhile_cons, takeWhile_app p x r h l]
theorem words_le (l : List Int) (i : Nat) : words l i ≤ l.length - i := by
  unfold words
  have := takeWhile_le word (l.drop i)
  rwa [List.length_drop] at this
theorem figures_le (l : List Int) (i : Nat) : figures l i ≤ l.length - i := by
  unfold figures
  have := takeWhile_le digit (l.drop i)
  rwa [List.length_drop] at this
theorem numLen_le {l : List Int} {i e : Nat} (hi : i < l.length) (h : numLen l i = some e) : 1 ≤ e ∧ i + e ≤ l.length := by
  unfold numLen at h
  simp only at h
  obtain ⟨n, hn⟩ : ∃ n, n = (if l.getD i (-1) = 175 then 1 else 0) := ⟨_, rfl⟩
  rw [← hn] at h
  have hn1 : n ≤ 1 := by rw [hn]; split <;> omega
  obtain ⟨k, hk⟩ : ∃ k, k = figures l (i + n) := ⟨_, rfl⟩
  rw [← hk] at h
  have hkl := figures_le l (i + n)
  rw [← hk] at hkl
  by_cases h0 : k = 0
  · rw [if_pos h0] at h; cases h
  · rw [if_neg h0] at h
    obtain ⟨f, hf⟩ : ∃ f, f = figures l (i + (n + k) + 1) := ⟨_, rfl⟩
    have hfl := figures_le l (i + (n + k) + 1)
    rw [← hf] at h hfl
    obtain ⟨e', he'⟩ : ∃ e', e' = (if (l.getD (i + (n + k)) (-1) = 114 ∨ l.getD (i + (n + k)) (-1) = 46) ∧ 0 < f then n + k + 1 + f else n + k) := ⟨_, rfl⟩
    rw [← he'] at h
    split at h
    · cases h
    · injection h with h
      subst h
      rw [he']
      split <;> omega
theorem quote_le {l : List Int} : ∀ {f k : Nat} {out t : List Int} {e : Nat}, quote l f k out = some (t, e) → k + 1 ≤ e ∧ e ≤ l.length
  | 0, _, _, _, _, h => by cases h
  | f + 1, k, out, t, e, h => by
    unfold quote at h
    split at h
    · cases h
    · next hk =>
      split at h
      · have := quote_le h; omega
      · next h39 =>
        split at h
        · injection h with h; injection h with h1 h2; omega
        · have := quote_le h
          omega
theorem getD_in {l : List Int} {i : Nat} (h : i < l.length) : l.getD i (-1) = l[i] := by rw [List.getD_eq_getElem?_getD, List.getElem?_eq_getElem h]; rfl
theorem getD_out {l : List Int} {i : Nat} (h : l.length ≤ i) : l.getD i (-1) = -1 := by rw [List.getD_eq_getElem?_getD, List.getElem?_eq_none h]; rfl
theorem words_pos {l : List Int} {i : Nat} (h : i < l.length) (hw : word (l.getD i (-1)) = true) : 1 ≤ words l i := by
  unfold words
  rw [List.drop_eq_getElem_cons h, List.takeWhile_cons]
  rw [getD_in h] at hw
  rw [hw]
  simp
/-- A token has at least one character, and ends in the line. -/
theorem read_len {l : List Int} {i : Nat} (hi : i < l.length) (h : (read l i).2.2 = 0) : 1 ≤ (read l i).2.1 ∧ i + (read l i).2.1 ≤ l.length := by
  unfold read at h ⊢
  simp only at h ⊢
  generalize hc : l.getD i (-1) = c at *
  by_cases c3 : cls c = 3
  · rw [if_pos c3] at h ⊢
    cases hn : numLen l i with
    | none => rw [hn] at h; cases h
    | some n =>
      rw [hn] at h
      have := numLen_le hi hn
      simp only at h ⊢
      by_cases hr : (Dg.parse (enc ((l.drop i).take n))).2 = 0
      · rw [if_pos hr]; exact this
      · rw [if_neg hr] at h; exact absurd h hr
  · rw [if_neg c3] at h ⊢
    by_cases c2 : cls c = 2
    · rw [if_pos c2] at h ⊢
      have hw : 1 ≤ words l i := words_pos hi (by rw [hc]; simp [word, c2])
      have := words_le l i
      by_cases h16 : 16 < words l i
      · rw [if_pos h16] at h; cases h
      · rw [if_neg h16]; exact ⟨hw, by show i + words l i ≤ _; omega⟩
    · rw [if_neg c2] at h ⊢
      by_cases c39 : c = 39
      · rw [if_pos c39] at h ⊢
        cases hq : quote l (l.length + 1) (i + 1) [] with
        | none => rw [hq] at h; cases h
        | some p =>
          obtain ⟨t, e⟩ := p
          have := quote_le hq
          exact ⟨by show 1 ≤ e - i; omega, by show i + (e - i) ≤ _; omega⟩
      · rw [if_neg c39] at h ⊢
        by_cases cp : c = 9109 ∨ c = 9054
        · rw [if_pos cp] at h ⊢
          have := words_le l (i + 1)
          split at h
          · next hq => rw [if_pos hq]; exact ⟨by show 1 ≤ 2; omega, by show i + 2 ≤ _; omega⟩
          · next hq =>
            rw [if_neg hq]
            split at h
            · next hq2 => rw [if_pos hq2]; exact ⟨by show 1 ≤ 3; omega, by show i + 3 ≤ _; omega⟩
            · next hq2 =>
              rw [if_neg hq2]
              split at h
              · next hq3 => rw [if_pos hq3]; exact ⟨by show 1 ≤ 3; omega, by show i + 3 ≤ _; omega⟩
              · cases h
        · rw [if_neg cp] at h ⊢
          by_cases c0 : cls c = 0
          · rw [if_pos c0] at h; cases h
          · rw [if_neg c0]; exact ⟨by show 1 ≤ 1; omega, by show i + 1 ≤ _; omega⟩
/-- A token's fields are its kind's. -/
structure OkTok (t : Tok) : Prop where
  k0 : 0 ≤ t.kind
  k7 : t.kind ≤ 7
  l : t.kind ≠ 1 → t.l = []
  s : t.kind ≠ 2 → t.kind ≠ 3 → t.s = []
  c : t.kind ≤ 3 → t.c = 0
theorem read_ok {l : List Int} {i : Nat} (h : (read l i).2.2 = 0) : OkTok (read l i).1 ∧ (read l i).1.at_ = i := by
  unfold read at h ⊢
  simp only at h ⊢
  generalize l.getD i (-1) = c at *
  by_cases c3 : cls c = 3
  · rw [if_pos c3] at h ⊢
    cases hn : numLen l i with
    | none => rw [hn] at h; cases h
    | some n =>
      rw [hn] at h
      simp only at h ⊢
      by_cases hr : (Dg.parse (enc ((l.drop i).take n))).2 = 0
      · rw [if_pos hr]; exact ⟨⟨by simp, by simp, by simp, by simp, by simp⟩, by simp⟩
      · rw [if_neg hr] at h; exact absurd h hr
  · rw [if_neg c3] at h ⊢
    by_cases c2 : cls c = 2
    · rw [if_pos c2] at h ⊢
      by_cases h16 : 16 < words l i
      · rw [if_pos h16] at h; cases h
      · rw [if_neg h16]
        by_cases h90 : c ≤ 90
        · simp only [if_pos h90]; exact ⟨⟨by simp, by simp, by simp, by simp, by simp⟩, by simp⟩
        · simp only [if_neg h90]; exact ⟨⟨by simp, by simp, by simp, by simp, by simp⟩, by simp⟩
    · rw [if_neg c2] at h ⊢
      by_cases c39 : c = 39
      · rw [if_pos c39] at h ⊢
        cases hq : quote l (l.length + 1) (i + 1) [] with
        | none => rw [hq] at h; cases h
        | some p => exact ⟨⟨by simp, by simp, by simp, by simp, by simp⟩, by simp⟩
      · rw [if_neg c39] at h ⊢
        by_cases cp : c = 9109 ∨ c = 9054
        · rw [if_pos cp] at h ⊢
          split at h
          · next hq =>
            rw [if_pos hq]
            by_cases c5 : c = 9054
            · simp only [if_pos c5]; exact ⟨⟨by simp, by simp, by simp, by simp, by simp⟩, by simp⟩
            · simp only [if_neg c5]; exact ⟨⟨by simp, by simp, by simp, by simp, by simp⟩, by simp⟩
          · next hq =>
            rw [if_neg hq]
            split at h
            · next hq2 => rw [if_pos hq2]; exact ⟨⟨by simp, by simp, by simp, by simp, by simp⟩, by simp⟩
            · next hq2 =>
              rw [if_neg hq2]
              split at h
              · next hq3 => rw [if_pos hq3]; exact ⟨⟨by simp, by simp, by simp, by simp, by simp⟩, by simp⟩
              · cases h
        · rw [if_neg cp] at h ⊢
          by_cases c0 : cls c = 0
          · rw [if_pos c0] at h; cases h
          · rw [if_neg c0]; exact ⟨⟨by simp, by simp, by simp, by simp, by simp⟩, by simp⟩
/-- Tokens that rise, all below a place, each as its kind says. -/
def Up (out : List Tok) (i : Nat) : Prop := (∀ t ∈ out, OkTok t ∧ t.at_ < i) ∧ out.Pairwise (fun a b => a.at_ < b.at_)
theorem goF_up {l : List Int} : ∀ {f i : Nat} {out : List Tok}, Up out i → (goF l f i out).2.2 = 0 → ∃ j, Up (goF l f i out).1 j
  | 0, i, out, h, _ => ⟨i, h⟩
  | f + 1, i, out, h, he => by
    unfold goF at he ⊢
    by_cases h1 : l.length ≤ i ∨ l.getD i (-1) = 9053
    · rw [if_pos h1]; exact ⟨i, h⟩
    · rw [if_neg h1] at he ⊢
      by_cases h2 : cls (l.getD i (-1)) = 1
      · rw [if_pos h2] at he ⊢
        exact goF_up ⟨fun t ht => ⟨(h.1 t ht).1, by have := (h.1 t ht).2; omega⟩, h.2⟩ he
      · rw [if_neg h2] at he ⊢
        by_cases h3 : (read l i).2.2 ≠ 0
        · rw [if_pos h3] at he; exact absurd he h3
        · rw [if_neg h3] at he ⊢
          have h3 : (read l i).2.2 = 0 := by omega
          obtain ⟨r1, r2⟩ := read_len (by omega) h3
          obtain ⟨o1, o2⟩ := read_ok h3
          refine goF_up ⟨fun t ht => ?_, ?_⟩ he
          · rcases List.mem_append.1 ht with ht | ht
            · exact ⟨(h.1 t ht).1, by have := (h.1 t ht).2; omega⟩
            · rw [List.mem_singleton] at ht; subst ht; exact ⟨o1, by omega⟩
          · rw [List.pairwise_append]
            refine ⟨h.2, by simp, fun a ha b hb => ?_⟩
            rw [List.mem_singleton] at hb; subst hb
            rw [o2]
            exact (h.1 a ha).2
theorem goF_err {l : List Int} : ∀ {f i : Nat} {out : List Tok}, (goF l f i out).2.2 ≠ 0 → (goF l f i out).1 = []
  | 0, i, out, h => by exact absurd rfl h
  | f + 1, i, out, he => by
    unfold goF at he ⊢
    by_cases h1 : l.length ≤ i ∨ l.getD i (-1) = 9053
    · rw [if_pos h1] at he; exact absurd rfl he
    · rw [if_neg h1] at he ⊢
      by_cases h2 : cls (l.getD i (-1)) = 1
      · rw [if_pos h2] at he ⊢; exact goF_err he
      · rw [if_neg h2] at he ⊢
        by_cases h3 : (read l i).2.2 ≠ 0
        · rw [if_pos h3]
        · rw [if_neg h3] at he ⊢; exact goF_err he
theorem cutL_err {l : List Int} {b : Option Nat} (h : (cutL l b).2.2 ≠ 0) : (cutL l b).1 = [] := by
  unfold cutL at h ⊢
  split
  · rfl
  · next h1 =>
    rw [if_neg h1] at h
    split
    · next h2 => exact goF_err h2
    · next h2 =>
      rw [if_neg h2] at h
      cases b with
      | none => exact absurd h h2
      | some _ => rfl
theorem cutL_up {l : List Int} {b : Option Nat} (h : (cutL l b).2.2 = 0) : ∃ j, Up (cutL l b).1 j := by
  unfold cutL at h ⊢
  split
  · next h1 => rw [if_pos h1] at h; cases h
  · next h1 =>
    rw [if_neg h1] at h
    split
    · next h2 => rw [if_pos h2] at h; exact absurd h h2
    · next h2 =>
      rw [if_neg h2] at h
      cases b with
      | none => exact goF_up ⟨by simp, by simp⟩ h
      | some _ => cases h
/-! ### A blank and more behind -/
theorem getD_app {l : List Int} {r : List Int} {i : Nat} (h : i < l.length) : (l ++ r).getD i (-1) = l.getD i (-1) := by
  rw [List.getD_eq_getElem?_getD, List.getD_eq_getElem?_getD, List.getElem?_append_left h]
theorem getD_at {l : List Int} {x : Int} {r : List Int} : (l ++ x :: r).getD l.length (-1) = x := by
  rw [List.getD_eq_getElem?_getD, List.getElem?_append_right (Nat.le_refl _)]; simp
theorem drop_app {l r : List Int} {i : Nat} (h : i ≤ l.length) : (l ++ r).drop i = l.drop i ++ r := by rw [List.drop_append_of_le_length h]
theorem words_app {l : List Int} {r : List Int} {i : Nat} (h : i ≤ l.length) : words (l ++ 32 :: r) i = words l i := by
  unfold words
  rw [drop_app h, takeWhile_app _ _ _ (by decide)]
theorem figures_app {l : List Int} {r : List Int} {i : Nat} (h : i ≤ l.length) : figures (l ++ 32 :: r) i = figures l i := by
  unfold figures
  rw [drop_app h, takeWhile_app _ _ _ (by decide)]
theorem take_app {l r : List Int} {i n : Nat} (h : i + n ≤ l.length) : ((l ++ r).drop i).take n = (l.drop i).take n := by
  rw [drop_app (by omega), List.take_append_of_le_length (by rw [List.length_drop]; omega)]
theorem at_app {l r : List Int} {i : Nat} (h : i ≤ l.length) : (l ++ 32 :: r).getD i (-1) = l.getD i (-1) ∨ (l.getD i (-1) = -1 ∧ (l ++ 32 :: r).getD i (-1) = 32) := by
  rcases Nat.lt_or_ge i l.length with h1 | h1
  · exact .inl (getD_app h1)
  · have : i = l.length := by omega
    subst this
    exact .inr ⟨getD_out (Nat.le_refl _), getD_at⟩
theorem numLen_app {l r : List Int} {i : Nat} (hi : i < l.length) : numLen (l ++ 32 :: r) i = numLen l i := by
  unfold numLen
  simp only
  rw [getD_app hi]
  obtain ⟨n, hn⟩ : ∃ n, n = (if l.getD i (-1) = 175 then 1 else 0) := ⟨_, rfl⟩
  rw [← hn]
  have hn1 : n ≤ 1 := by rw [hn]; split <;> omega
  rw [figures_app (show i + n ≤ l.length by omega)]
  obtain ⟨k, hk⟩ : ∃ k, k = figures l (i + n) := ⟨_, rfl⟩
  have hkl := figures_le l (i + n)
  rw [← hk] at hkl ⊢
  by_cases h0 : k = 0
  · rw [if_pos h0, if_pos h0]
  · rw [if_neg h0, if_neg h0]
    have eA : ((((l ++ 32 :: r).getD (i + (n + k)) (-1) = 114 ∨ (l ++ 32 :: r).getD (i + (n + k)) (-1) = 46) ∧ 0 < figures (l ++ 32 :: r) (i + (n + k) + 1)) ↔ ((l.getD (i + (n + k)) (-1) = 114 ∨ l.getD (i + (n + k)) (-1) = 46) ∧ 0 < figures l (i + (n + k) + 1))) := by
      rcases Nat.lt_or_ge (i + (n + k)) l.length with h1 | h1
      · rw [getD_app h1, figures_app (by omega)]
      · have e : i + (n + k) = l.length := by omega
        rw [e, getD_at, getD_out (Nat.le_refl _)]
        constructor
        · rintro ⟨h | h, _⟩ <;> omega
        · rintro ⟨h | h, _⟩ <;> omega
    by_cases hA : (l.getD (i + (n + k)) (-1) = 114 ∨ l.getD (i + (n + k)) (-1) = 46) ∧ 0 < figures l (i + (n + k) + 1)
    · have hlt : i + (n + k) < l.length := by
        rcases Nat.lt_or_ge (i + (n + k)) l.length with h1 | h1
        · exact h1
        · rw [getD_out h1] at hA; omega
      rw [if_pos (eA.2 hA), if_pos hA, figures_app (by omega)]
      have hfl := figures_le l (i + (n + k) + 1)
      rcases at_app (l := l) (r := r) (i := i + (n + k + 1 + figures l (i + (n + k) + 1))) (by omega) with e | ⟨e1, e2⟩
      · rw [e]
      · rw [e1, e2]; rfl
    · rw [if_neg (fun h => hA (eA.1 h)), if_neg hA]
      rcases at_app (l := l) (r := r) (i := i + (n + k)) (by omega) with e | ⟨e1, e2⟩
      · rw [e]
      · rw [e1, e2]; rfl
theorem quote_app {l r : List Int} : ∀ {f f' k : Nat} {out : List Int} {p : List Int × Nat}, f ≤ f' → quote l f k out = some p → quote (l ++ 32 :: r) f' k out = some p
  | 0, _, _, _, _, _, h => by cases h
  | _ + 1, 0, _, _, _, hf, _ => by omega
  | f + 1, f' + 1, k, out, p, hf, h => by
    unfold quote at h ⊢
    by_cases hk : l.length ≤ k
    · rw [if_pos hk] at h; cases h
    · rw [if_neg hk] at h
      rw [if_neg (by simp; omega), getD_app (by omega)]
      by_cases h39 : l.getD k (-1) ≠ 39
      · rw [if_pos h39] at h ⊢
        exact quote_app (by omega) h
      · rw [if_neg h39] at h ⊢
        by_cases h40 : l.getD (k + 1) (-1) ≠ 39
        · rw [if_pos h40] at h
          rw [if_pos]
          · exact h
          · rcases at_app (l := l) (r := r) (i := k + 1) (by omega) with e | ⟨e1, e2⟩
            · rw [e]; exact h40
            · rw [e2]; decide
        · rw [if_neg h40] at h
          have hlt : k + 1 < l.length := by
            rcases Nat.lt_or_ge (k + 1) l.length with h1 | h1
            · exact h1
            · rw [getD_out h1] at h40; omega
          rw [getD_app hlt, if_neg h40]
          exact quote_app (by omega) h
theorem read_app {l r : List Int} {i : Nat} (hi : i < l.length) (h : (read l i).2.2 = 0) : read (l ++ 32 :: r) i = read l i := by
  unfold read at h ⊢
  simp only at h ⊢
  rw [getD_app hi, numLen_app hi, words_app (by omega), words_app (by omega)]
  generalize hc : l.getD i (-1) = c at *
  by_cases c3 : cls c = 3
  · rw [if_pos c3, if_pos c3]
    cases hn : numLen l i with
    | none => rfl
    | some n =>
      have := numLen_le hi hn
      dsimp only
      rw [take_app (show i + n ≤ l.length by omega)]
  · rw [if_neg c3] at h
    rw [if_neg c3, if_neg c3]
    by_cases c2 : cls c = 2
    · rw [if_pos c2, if_pos c2]
      have := words_le l i
      rw [take_app (show i + words l i ≤ l.length by omega)]
    · rw [if_neg c2] at h
      rw [if_neg c2, if_neg c2]
      by_cases c39 : c = 39
      · rw [if_pos c39] at h
        rw [if_pos c39, if_pos c39]
        cases hq : quote l (l.length + 1) (i + 1) [] with
        | none => rw [hq] at h; cases h
        | some p => rw [quote_app (f' := (l ++ 32 :: r).length + 1) (by simp) hq]
      · rw [if_neg c39] at h
        rw [if_neg c39, if_neg c39]
        by_cases cp : c = 9109 ∨ c = 9054
        · rw [if_pos cp, if_pos cp]
          have hw := words_le l (i + 1)
          rcases Nat.lt_or_ge (i + 1) l.length with h1 | h1
          · rw [getD_app h1]
            by_cases h2 : words l (i + 1) = 2
            · rw [getD_app (show i + 2 < l.length by omega)]
            · simp only [h2, false_and, and_false, if_false]
          · have h0 : words l (i + 1) = 0 := by omega
            simp only [h0, show ((0 : Nat) = 1) = False by simp, show ((0 : Nat) = 2) = False by simp, false_and, and_false, if_false]
        · rw [if_neg cp, if_neg cp]
theorem goF_app {l r : List Int} : ∀ {f f' i : Nat} {out : List Tok}, i ≤ l.length → l.length - i < f → (l ++ 32 :: 9053 :: r).length - i < f' → (goF l f i out).2.2 = 0 → goF (l ++ 32 :: 9053 :: r) f' i out = goF l f i out
  | 0, _, _, _, _, h, _, _ => by omega
  | _ + 1, 0, _, _, _, _, h, _ => by omega
  | f + 1, f' + 1, i, out, hl, h1, h2, he => by
    have hlen : (l ++ 32 :: 9053 :: r).length = l.length + (r.length + 2) := by simp
    rw [hlen] at h2
    by_cases hi : i < l.length
    · unfold goF at he ⊢
      rw [getD_app hi, hlen]
      by_cases hA : l.getD i (-1) = 9053
      · rw [if_pos (.inr hA), if_pos (.inr hA)]
      · have nA : ¬(l.length ≤ i ∨ l.getD i (-1) = 9053) := by omega
        have nA' : ¬(l.length + (r.length + 2) ≤ i ∨ l.getD i (-1) = 9053) := by omega
        rw [if_neg nA] at he
        rw [if_neg nA, if_neg nA']
        by_cases hB : cls (l.getD i (-1)) = 1
        · rw [if_pos hB] at he
          rw [if_pos hB, if_pos hB]
          exact goF_app (by omega) (by omega) (by rw [hlen]; omega) he
        · rw [if_neg hB] at he
          rw [if_neg hB, if_neg hB]
          by_cases hC : (read l i).2.2 ≠ 0
          · rw [if_pos hC] at he; exact absurd he hC
          · rw [if_neg hC] at he
            have hC' : (read l i).2.2 = 0 := by omega
            have hp := read_len hi hC'
            rw [read_app hi hC', if_neg hC, if_neg hC]
            exact goF_app (by omega) (by omega) (by rw [hlen]; omega) he
    · by_cases hi2 : i = l.length
      · subst hi2
        have e1 : goF l (f + 1) l.length out = (out, 0, 0) := by unfold goF; rw [if_pos (.inl (Nat.le_refl _))]
        rw [e1]
        unfold goF
        rw [getD_at, hlen, if_neg (by omega), if_pos (by decide)]
        cases f' with
        | zero => omega
        | succ f' =>
          have h9 : (l ++ 32 :: 9053 :: r).getD (l.length + 1) (-1) = 9053 := by
            rw [show l ++ 32 :: 9053 :: r = (l ++ [32]) ++ 9053 :: r by simp]
            have := getD_at (l := l ++ [32]) (x := 9053) (r := r)
            have e : (l ++ [(32 : Int)]).length = l.length + 1 := by simp
            rwa [e] at this
          unfold goF
          rw [if_pos (.inr h9)]
      · omega
/-! ### Blanks ahead -/
def shift (k : Nat) (t : Tok) : Tok := { t with at_ := k + t.at_ }
theorem getD_right {b l : List Int} {i : Nat} : (b ++ l).getD (b.length + i) (-1) = l.getD i (-1) := by
  rw [List.getD_eq_getElem?_getD, List.getD_eq_getElem?_getD, List.getElem?_append_right (by omega), Nat.add_sub_cancel_left]
theorem drop_right {b l : List Int} {i : Nat} : (b ++ l).drop (b.length + i) = l.drop i := by
  rw [List.drop_append, List.drop_eq_nil_of_le (by omega), Nat.add_sub_cancel_left, List.nil_append]
theorem words_right {b l : List Int} {i : Nat} : words (b ++ l) (b.length + i) = words l i := by unfold words; rw [drop_right]
theorem figures_right {b l : List Int} {i : Nat} : figures (b ++ l) (b.length + i) = figures l i := by unfold figures; rw [drop_right]
theorem numLen_right {b l : List Int} {i : Nat} : numLen (b ++ l) (b.length + i) = numLen l i := by
  unfold numLen
  simp only [Nat.add_assoc, getD_right, figures_right]
theorem quote_right {b l : List Int} : ∀ {f f' k : Nat} {out : List Int}, l.length < f + k → l.length < f' + k → quote (b ++ l) f' (b.length + k) out = (quote l f k out).map fun p => (p.1, b.length + p.2)
  | 0, 0, k, out, h1, h2 => rfl
  | f + 1, 0, k, out, h1, h2 => by
    unfold quote
    rw [if_pos (by omega)]; rfl
  | 0, f' + 1, k, out, h1, h2 => by
    unfold quote
    rw [if_pos (by simp; omega)]; rfl
  | f + 1, f' + 1, k, out, h1, h2 => by
    unfold quote
    have e0 : ((b ++ l).length ≤ b.length + k) ↔ l.length ≤ k := by simp
    by_cases hk : l.length ≤ k
    · rw [if_pos (e0.2 hk), if_pos hk]; rfl
    · rw [if_neg (fun h => hk (e0.1 h)), if_neg hk]
      simp only [Nat.add_assoc, getD_right]
      by_cases h39 : l.getD k (-1) ≠ 39
      · rw [if_pos h39, if_pos h39]
        exact quote_right (by omega) (by omega)
      · rw [if_neg h39, if_neg h39]
        by_cases h40 : l.getD (k + 1) (-1) ≠ 39
        · rw [if_pos h40, if_pos h40]; rfl
        · rw [if_neg h40, if_neg h40]
          exact quote_right (by omega) (by omega)
/-- What is read of a line with more ahead of it. -/
theorem read_right {b l : List Int} {i : Nat} : read (b ++ l) (b.length + i) = (if (read l i).2.2 = 0 then shift b.length (read l i).1 else (read l i).1, (read l i).2) := by
  unfold read
  simp only [Nat.add_assoc, getD_right, numLen_right, words_right, drop_right]
  generalize l.getD i (-1) = c
  by_cases c3 : cls c = 3
  · simp only [if_pos c3]
    cases numLen l i with
    | none => rfl
    | some n =>
      simp only
      by_cases hr : (Dg.parse (enc ((l.drop i).take n))).2 = 0
      · simp only [if_pos hr]; rfl
      · simp only [if_neg hr]
  · simp only [if_neg c3]
    by_cases c2 : cls c = 2
    · simp only [if_pos c2]
      by_cases h16 : 16 < words l i
      · simp only [if_pos h16]; rfl
      · simp only [if_neg h16]; rfl
    · simp only [if_neg c2]
      by_cases c39 : c = 39
      · simp only [if_pos c39]
        have := quote_right (b := b) (l := l) (f := l.length + 1) (f' := (b ++ l).length + 1) (k := i + 1) (out := []) (by omega) (by simp; omega)
        rw [this]
        cases hq : quote l (l.length + 1) (i + 1) [] with
        | none => rfl
        | some p =>
          obtain ⟨t, e⟩ := p
          have hle := quote_le hq
          simp only [Option.map_some, if_true]
          rw [show b.length + e - (b.length + i) = e - i by omega]
          rfl
      · simp only [if_neg c39]
        by_cases cp : c = 9109 ∨ c = 9054
        · simp only [if_pos cp]
          split
          · rfl
          · split
            · rfl
            · split
              · rfl
              · rfl
        · simp only [if_neg cp]
          by_cases c0 : cls c = 0
          · simp only [if_pos c0]; rfl
          · simp only [if_neg c0]; rfl
theorem goF_shift {b l : List Int} : ∀ {f f' i : Nat} {out : List Tok}, l.length - i < f → l.length - i < f' → (goF l f i out).2.2 = 0 → goF (b ++ l) f' (b.length + i) (out.map (shift b.length)) = ((goF l f i out).1.map (shift b.length), 0, 0) 
  | 0, _, _, _, h, _, _ => by omega
  | _ + 1, 0, _, _, _, h, _ => by omega
  | f + 1, f' + 1, i, out, h1, h2, he => by
    have e0 : ((b ++ l).length ≤ b.length + i ∨ (b ++ l).getD (b.length + i) (-1) = 9053) ↔ (l.length ≤ i ∨ l.getD i (-1) = 9053) := by rw [getD_right]; simp
    unfold goF at he ⊢
    by_cases hA : l.length ≤ i ∨ l.getD i (-1) = 9053
    · rw [if_pos (e0.2 hA), if_pos hA]
    · rw [if_neg hA] at he
      rw [if_neg (fun h => hA (e0.1 h)), if_neg hA, getD_right]
      by_cases hB : cls (l.getD i (-1)) = 1
      · rw [if_pos hB] at he
        rw [if_pos hB, if_pos hB]
        have := goF_shift (b := b) (l := l) (f := f) (f' := f') (i := i + 1) (out := out) (by omega) (by omega) he
        rwa [← Nat.add_assoc] at this
      · rw [if_neg hB] at he
        rw [if_neg hB, if_neg hB]
        by_cases hC : (read l i).2.2 ≠ 0
        · rw [if_pos hC] at he; exact absurd he hC
        · rw [if_neg hC] at he
          have hC' : (read l i).2.2 = 0 := by omega
          have hp := read_len (by omega) hC'
          have hr := read_right (b := b) (l := l) (i := i)
          rw [if_pos hC'] at hr
          rw [hr]
          dsimp only
          rw [if_neg hC, if_neg hC]
          have := goF_shift (b := b) (l := l) (f := f) (f' := f') (i := i + (read l i).2.1) (out := out ++ [(read l i).1]) (by omega) (by omega) he
          rw [List.map_append, List.map_singleton, ← Nat.add_assoc] at this
          exact this
theorem goF_blanks {l : List Int} : ∀ {k f j : Nat} {out : List Tok}, goF (List.replicate (j + k) 32 ++ l) (f + k) j out = goF (List.replicate (j + k) 32 ++ l) f (j + k) out
  | 0, f, j, out => rfl
  | k + 1, f, j, out => by
    have hg : (List.replicate (j + (k + 1)) (32 : Int) ++ l).getD j (-1) = 32 := by
      rw [getD_app (by simp), getD_in (by simp)]; simp
    rw [show f + (k + 1) = (f + k) + 1 by omega]
    conv => lhs; unfold goF
    rw [hg, if_neg, if_pos (by decide)]
    · have := goF_blanks (l := l) (k := k) (f := f) (j := j + 1) (out := out)
      rw [show j + 1 + k = j + (k + 1) by omega] at this
      exact this
    · simp; omega
theorem goF_ok {l : List Int} : ∀ {f i : Nat} {out : List Tok}, (goF l f i out).2.2 = 0 → goF l f i out = ((goF l f i out).1, 0, 0)
  | 0, i, out, h => rfl
  | f + 1, i, out, h => by
    unfold goF at h ⊢
    by_cases h1 : l.length ≤ i ∨ l.getD i (-1) = 9053
    · rw [if_pos h1]
    · rw [if_neg h1] at h
      rw [if_neg h1]
      by_cases h2 : cls (l.getD i (-1)) = 1
      · rw [if_pos h2] at h; rw [if_pos h2]; exact goF_ok h
      · rw [if_neg h2] at h; rw [if_neg h2]
        by_cases h3 : (read l i).2.2 ≠ 0
        · rw [if_pos h3] at h; exact absurd h h3
        · rw [if_neg h3] at h; rw [if_neg h3]; exact goF_ok h
theorem cutL_ok {l : List Int} {b : Option Nat} (h : (cutL l b).2.2 = 0) : l.length ≤ 2000 ∧ b = none ∧ (goF l (l.length + 1) 0 []).2.2 = 0 ∧ cutL l b = ((goF l (l.length + 1) 0 []).1, 0, 0) := by
  unfold cutL at h ⊢
  split at h
  · cases h
  · next h1 =>
    rw [if_neg h1]
    split at h
    · next h2 => exact absurd h h2
    · next h2 =>
      rw [if_neg h2]
      cases b with
      | some _ => cases h
      | none => exact ⟨by omega, rfl, h, goF_ok h⟩
theorem cutL_of {l : List Int} (h1 : l.length ≤ 2000) (h2 : (goF l (l.length + 1) 0 []).2.2 = 0) : cutL l none = goF l (l.length + 1) 0 [] := by
  unfold cutL
  rw [if_neg (by omega), if_neg (by omega)]
/-- A comment behind. -/
theorem cutL_comment {l r : List Int} (h : (cutL l none).2.2 = 0) (hl : (l ++ 32 :: 9053 :: r).length ≤ 2000) : cutL (l ++ 32 :: 9053 :: r) none = cutL l none := by
  obtain ⟨h1, -, h2, h3⟩ := cutL_ok h
  have := goF_app (l := l) (r := r) (f := l.length + 1) (f' := (l ++ 32 :: 9053 :: r).length + 1) (i := 0) (out := []) (by omega) (by omega) (by omega) h2
  rw [cutL_of hl (by rw [this]; exact h2), this, h3, goF_ok h2]
/-- Blanks ahead. -/
theorem cutL_blanks {l : List Int} {k : Nat} (h : (cutL l none).2.2 = 0) (hl : k + l.length ≤ 2000) : cutL (List.replicate k 32 ++ l) none = ((cutL l none).1.map (shift k), 0, 0) := by
  obtain ⟨h1, -, h2, h3⟩ := cutL_ok h
  have e1 := goF_shift (b := List.replicate k 32) (l := l) (f := l.length + 1) (f' := l.length + 1) (i := 0) (out := []) (by omega) (by omega) h2
  have e2 := goF_blanks (l := l) (k := k) (f := l.length + 1) (j := 0) (out := [])
  simp only [Nat.zero_add, List.length_replicate, Nat.add_zero, List.map_nil] at e1 e2
  rw [e1] at e2
  have hlen : (List.replicate k (32 : Int) ++ l).length + 1 = l.length + 1 + k := by simp; omega
  rw [cutL_of (by simp; omega) (by rw [hlen, e2]), hlen, e2, h3]
/-- A line of 800 bytes: blanks ahead, a comment behind. -/
theorem cut_comment {s t : ByteArray} (hs : s.size ≤ 1000) (h : (cut s).2.2 = 0) (ht : Gl.dec t 0 = ([32, 9053, 39], none)) : cut (s ++ t) = cut s := by
  unfold cut at h ⊢
  obtain ⟨h1, hb, h2, h3⟩ := cutL_ok h
  have e := Gl.dec_left s t (s.size + 1) 0 (by omega) (by omega) hb
  have hlen := Gl.dec_len (s := s) (s.size + 1) 0 (by omega)
  rw [e, ht]
  simp only [Option.map_none]
  rw [hb] at h ⊢
  unfold Gl.ints at h ⊢
  rw [List.map_append]
  exact cutL_comment (r := [39]) h (by simp; omega)
theorem dec_blanks : ∀ (k : Nat) (s : ByteArray) (a : ByteArray), a.size = k → (∀ i, i < k → Gl.by_ a i = 32) → Gl.dec (a ++ s) 0 = (List.replicate k 32 ++ (Gl.dec s 0).1, (Gl.dec s 0).2.map (k + ·)) := by
  intro k s a hk hb
  have hsz : (a ++ s).size = a.size + s.size := ByteArray.size_append
  have key : ∀ j i, i + j = k → Gl.dec (a ++ s) i = (List.replicate j 32 ++ (Gl.dec s 0).1, (Gl.dec s 0).2.map (k + ·)) := by
    intro j
    induction j with
    | zero =>
      intro i hi
      have := Gl.dec_right a s (s.size + 1) 0 (by omega)
      rw [show i = a.size + 0 by omega, this, hk]; rfl
    | succ j ih =>
      intro i hi
      have hbi : Gl.by_ (a ++ s) i = 32 := by rw [Gl.by_left a s (by omega)]; exact hb i (by omega)
      have hr : Gl.read (a ++ s) i = some (32, 1) := by
        have hd : Utf8.decode (a ++ s) i = (32, 1) := by rw [Gl.decode_eq, hbi]; rfl
        unfold Gl.read
        rw [hd, if_neg (by intro e; injection e with e1 e2; cases e1)]
      rw [Gl.dec_step (by omega) hr, ih (i + 1) (by omega), List.replicate_succ, List.cons_append]
  exact key k 0 (by omega)
theorem cut_blanks {a s : ByteArray} {k : Nat} (hs : s.size ≤ 1000) (hk : k ≤ 100) (ha : a.size = k) (hb : ∀ i, i < k → Gl.by_ a i = 32) (h : (cut s).2.2 = 0) : cut (a ++ s) = ((cut s).1.map (shift k), 0, 0) := by
  unfold cut at h ⊢
  obtain ⟨h1, hbd, h2, h3⟩ := cutL_ok h
  have hlen := Gl.dec_len (s := s) (s.size + 1) 0 (by omega)
  rw [dec_blanks k s a ha hb, hbd]
  rw [hbd] at h
  simp only [Option.map_none]
  have := cutL_blanks (k := k) h (by unfold Gl.ints; simp; omega)
  unfold Gl.ints at this ⊢
  rw [List.map_append, List.map_replicate]
  exact this
end Tk

/-
  Arrays as trees, plain: no program in sight. Joins of labels, equality with labels and without, erasing.
-/
namespace Ar
mutual
inductive Arr where
  | mk (S : Nat) (shape : List Int) (cells : List Cel)
inductive Cel where
  | mk (L : Nat) (kind : Int) (neg : Bool) (top bot : List Nat) (c : Int) (ins : List Arr)
end

/-! ### The join of all labels, onto what was joined before -/
mutual
def tot : Arr → Nat
  | .mk S _ cells => totCels S cells
def totCels : Nat → List Cel → Nat
  | x, [] => x
  | x, c :: r => totCels (totCel x c) r
def totCel : Nat → Cel → Nat
  | x, .mk L _ _ _ _ _ ins => totArrs (x ||| L) ins
def totArrs : Nat → List Arr → Nat
  | x, [] => x
  | x, a :: r => totArrs (x ||| tot a) r
end

/-! ### The same, with labels or without -/
mutual
def same (lab : Bool) : Arr → Arr → Bool
  | .mk S sh cs, .mk S' sh' cs' => (!lab || S == S') && (sh == sh') && sameCels lab cs cs'
def sameCels (lab : Bool) : List Cel → List Cel → Bool
  | [], [] => true
  | c :: r, c' :: r' => sameCel lab c c' && sameCels lab r r'
  | _, _ => false
def sameCel (lab : Bool) : Cel → Cel → Bool
  | .mk L k n t b c ins, .mk L' k' n' t' b' c' ins' => (!lab || L == L') && (k == k') && (c == c') && (n == n' && t == t' && b == b') && sameArrs lab ins ins'
def sameArrs (lab : Bool) : List Arr → List Arr → Bool
  | [], [] => true
  | a :: r, a' :: r' => same lab a a' && sameArrs lab r r'
  | _, _ => false
end

/-! ### Without labels -/
mutual
def erase : Arr → Arr
  | .mk _ sh cs => .mk 0 sh (eraseCels cs)
def eraseCels : List Cel → List Cel
  | [] => []
  | c :: r => eraseCel c :: eraseCels r
def eraseCel : Cel → Cel
  | .mk _ k n t b c ins => .mk 0 k n t b c (eraseArrs ins)
def eraseArrs : List Arr → List Arr
  | [] => []
  | a :: r => erase a :: eraseArrs r
end

mutual
theorem same_erase : ∀ a b : Arr, same true (erase a) (erase b) = same false a b
  | .mk _ _ cs, .mk _ _ cs' => by simp [erase, same, same_eraseCels cs cs']
theorem same_eraseCels : ∀ a b : List Cel, sameCels true (eraseCels a) (eraseCels b) = sameCels false a b
  | [], [] => by simp [sameCels, eraseCels]
  | [], _ :: _ => by simp [sameCels, eraseCels]
  | _ :: _, [] => by simp [sameCels, eraseCels]
  | c :: r, c' :: r' => by simp [eraseCels, sameCels, same_eraseCel c c', same_eraseCels r r']
theorem same_eraseCel : ∀ a b : Cel, sameCel true (eraseCel a) (eraseCel b) = sameCel false a b
  | .mk _ _ _ _ _ _ ins, .mk _ _ _ _ _ _ ins' => by simp [eraseCel, sameCel, same_eraseArrs ins ins']
theorem same_eraseArrs : ∀ a b : List Arr, sameArrs true (eraseArrs a) (eraseArrs b) = sameArrs false a b
  | [], [] => by simp [sameArrs, eraseArrs]
  | [], _ :: _ => by simp [sameArrs, eraseArrs]
  | _ :: _, [] => by simp [sameArrs, eraseArrs]
  | a :: r, a' :: r' => by simp [eraseArrs, sameArrs, same_erase a a', same_eraseArrs r r']
end

mutual
theorem same_refl (lab : Bool) : ∀ a : Arr, same lab a a = true
  | .mk _ _ cs => by simp [same, sameCels_refl lab cs]
theorem sameCels_refl (lab : Bool) : ∀ a : List Cel, sameCels lab a a = true
  | [] => by simp [sameCels]
  | c :: r => by simp [sameCels, sameCel_refl lab c, sameCels_refl lab r]
theorem sameCel_refl (lab : Bool) : ∀ a : Cel, sameCel lab a a = true
  | .mk _ _ _ _ _ _ ins => by simp [sameCel, sameArrs_refl lab ins]
theorem sameArrs_refl (lab : Bool) : ∀ a : List Arr, sameArrs lab a a = true
  | [] => by simp [sameArrs]
  | a :: r => by simp [sameArrs, same_refl lab a, sameArrs_refl lab r]
end

mutual
theorem same_symm (lab : Bool) : ∀ a b : Arr, same lab a b = true → same lab b a = true
  | .mk _ _ cs, .mk _ _ cs', h => by
    simp only [same, Bool.and_eq_true, Bool.or_eq_true, Bool.not_eq_true', beq_iff_eq] at h ⊢
    exact ⟨⟨h.1.1.imp id Eq.symm, h.1.2.symm⟩, sameCels_symm lab cs cs' h.2⟩
theorem sameCels_symm (lab : Bool) : ∀ a b : List Cel, sameCels lab a b = true → sameCels lab b a = true
  | [], [], _ => by simp [sameCels]
  | [], _ :: _, h => by simp [sameCels] at h
  | _ :: _, [], h => by simp [sameCels] at h
  | c :: r, c' :: r', h => by
    simp only [sameCels, Bool.and_eq_true] at h ⊢
    exact ⟨sameCel_symm lab c c' h.1, sameCels_symm lab r r' h.2⟩
theorem sameCel_symm (lab : Bool) : ∀ a b : Cel, sameCel lab a b = true → sameCel lab b a = true
  | .mk _ _ _ _ _ _ ins, .mk _ _ _ _ _ _ ins', h => by
    simp only [sameCel, Bool.and_eq_true, Bool.or_eq_true, Bool.not_eq_true', beq_iff_eq] at h ⊢
    exact ⟨⟨⟨⟨h.1.1.1.1.imp id Eq.symm, h.1.1.1.2.symm⟩, h.1.1.2.symm⟩, ⟨h.1.2.1.1.symm, h.1.2.1.2.symm⟩, h.1.2.2.symm⟩, sameArrs_symm lab ins ins' h.2⟩
theorem sameArrs_symm (lab : Bool) : ∀ a b : List Arr, sameArrs lab a b = true → sameArrs lab b a = true
  | [], [], _ => by simp [sameArrs]
  | [], _ :: _, h => by simp [sameArrs] at h
  | _ :: _, [], h => by simp [sameArrs] at h
  | a :: r, a' :: r', h => by
    simp only [sameArrs, Bool.and_eq_true] at h ⊢
    exact ⟨same_symm lab a a' h.1, sameArrs_symm lab r r' h.2⟩
end

mutual
theorem same_trans (lab : Bool) : ∀ a b c : Arr, same lab a b = true → same lab b c = true → same lab a c = true
  | .mk _ _ cs, .mk _ _ cs', .mk _ _ cs'', h, h' => by
    simp only [same, Bool.and_eq_true, Bool.or_eq_true, Bool.not_eq_true', beq_iff_eq] at h h' ⊢
    refine ⟨⟨?_, h.1.2.trans h'.1.2⟩, sameCels_trans lab cs cs' cs'' h.2 h'.2⟩
    rcases h.1.1 with e | e
    · exact .inl e
    · rcases h'.1.1 with e' | e'
      · exact .inl e'
      · exact .inr (e.trans e')
theorem sameCels_trans (lab : Bool) : ∀ a b c : List Cel, sameCels lab a b = true → sameCels lab b c = true → sameCels lab a c = true
  | [], [], [], _, _ => by simp [sameCels]
  | [], _ :: _, _, h, _ => by simp [sameCels] at h
  | _ :: _, [], _, h, _ => by simp [sameCels] at h
  | [], [], _ :: _, _, h => by simp [sameCels] at h
  | _ :: _, _ :: _, [], _, h => by simp [sameCels] at h
  | c :: r, c' :: r', c'' :: r'', h, h' => by
    simp only [sameCels, Bool.and_eq_true] at h h' ⊢
    exact ⟨sameCel_trans lab c c' c'' h.1 h'.1, sameCels_trans lab r r' r'' h.2 h'.2⟩
theorem sameCel_trans (lab : Bool) : ∀ a b c : Cel, sameCel lab a b = true → sameCel lab b c = true → sameCel lab a c = true
  | .mk _ _ _ _ _ _ ins, .mk _ _ _ _ _ _ ins', .mk _ _ _ _ _ _ ins'', h, h' => by
    simp only [sameCel, Bool.and_eq_true, Bool.or_eq_true, Bool.not_eq_true', beq_iff_eq] at h h' ⊢
    refine ⟨⟨⟨⟨?_, h.1.1.1.2.trans h'.1.1.1.2⟩, h.1.1.2.trans h'.1.1.2⟩, ⟨h.1.2.1.1.trans h'.1.2.1.1, h.1.2.1.2.trans h'.1.2.1.2⟩, h.1.2.2.trans h'.1.2.2⟩, sameArrs_trans lab ins ins' ins'' h.2 h'.2⟩
    rcases h.1.1.1.1 with e | e
    · exact .inl e
    · rcases h'.1.1.1.1 with e' | e'
      · exact .inl e'
      · exact .inr (e.trans e')
theorem sameArrs_trans (lab : Bool) : ∀ a b c : List Arr, sameArrs lab a b = true → sameArrs lab b c = true → sameArrs lab a c = true
  | [], [], [], _, _ => by simp [sameArrs]
  | [], _ :: _, _, h, _ => by simp [sameArrs] at h
  | _ :: _, [], _, h, _ => by simp [sameArrs] at h
  | [], [], _ :: _, _, h => by simp [sameArrs] at h
  | _ :: _, _ :: _, [], _, h => by simp [sameArrs] at h
  | a :: r, a' :: r', a'' :: r'', h, h' => by
    simp only [sameArrs, Bool.and_eq_true] at h h' ⊢
    exact ⟨same_trans lab a a' a'' h.1 h'.1, sameArrs_trans lab r r' r'' h.2 h'.2⟩
end

theorem sameCels_len (lab : Bool) : ∀ {a b : List Cel}, sameCels lab a b = true → a.length = b.length
  | [], [], _ => rfl
  | [], _ :: _, h => by simp [sameCels] at h
  | _ :: _, [], h => by simp [sameCels] at h
  | c :: r, c' :: r', h => by
    simp only [sameCels, Bool.and_eq_true] at h
    simp [sameCels_len lab h.2]
theorem sameArrs_len (lab : Bool) : ∀ {a b : List Arr}, sameArrs lab a b = true → a.length = b.length
  | [], [], _ => rfl
  | [], _ :: _, h => by simp [sameArrs] at h
  | _ :: _, [], h => by simp [sameArrs] at h
  | c :: r, c' :: r', h => by
    simp only [sameArrs, Bool.and_eq_true] at h
    simp [sameArrs_len lab h.2]
theorem eraseCels_len : ∀ a : List Cel, (eraseCels a).length = a.length
  | [] => by simp [eraseCels]
  | _ :: r => by simp [eraseCels, eraseCels_len r]
theorem eraseArrs_len : ∀ a : List Arr, (eraseArrs a).length = a.length
  | [] => by simp [eraseArrs]
  | _ :: r => by simp [eraseArrs, eraseArrs_len r]
theorem totCels_drop {cs : List Cel} {k : Nat} (h : k < cs.length) (x : Nat) : totCels x (cs.drop k) = totCels (totCel x cs[k]) (cs.drop (k + 1)) := by
  rw [List.drop_eq_getElem_cons h, totCels]
theorem totArrs_drop {cs : List Arr} {k : Nat} (h : k < cs.length) (x : Nat) : totArrs x (cs.drop k) = totArrs (x ||| tot cs[k]) (cs.drop (k + 1)) := by
  rw [List.drop_eq_getElem_cons h, totArrs]
theorem sameCels_drop (lab : Bool) {cs cs' : List Cel} {k : Nat} (h : k < cs.length) (h' : k < cs'.length) : sameCels lab (cs.drop k) (cs'.drop k) = (sameCel lab cs[k] cs'[k] && sameCels lab (cs.drop (k + 1)) (cs'.drop (k + 1))) := by
  rw [List.drop_eq_getElem_cons h, List.drop_eq_getElem_cons h', sameCels]
theorem sameArrs_drop (lab : Bool) {cs cs' : List Arr} {k : Nat} (h : k < cs.length) (h' : k < cs'.length) : sameArrs lab (cs.drop k) (cs'.drop k) = (same lab cs[k] cs'[k] && sameArrs lab (cs.drop (k + 1)) (cs'.drop (k + 1))) := by
  rw [List.drop_eq_getElem_cons h, List.drop_eq_getElem_cons h', sameArrs]
theorem eraseCels_take {cs : List Cel} {k : Nat} (h : k < cs.length) : eraseCels (cs.take (k + 1)) = eraseCels (cs.take k) ++ [eraseCel cs[k]] := by
  rw [List.take_succ_eq_append_getElem h]
  generalize cs.take k = l
  induction l with
  | nil => rfl
  | cons a r ih => simp [eraseCels, ih]
theorem eraseArrs_take {cs : List Arr} {k : Nat} (h : k < cs.length) : eraseArrs (cs.take (k + 1)) = eraseArrs (cs.take k) ++ [erase cs[k]] := by
  rw [List.take_succ_eq_append_getElem h]
  generalize cs.take k = l
  induction l with
  | nil => rfl
  | cons a r ih => simp [eraseArrs, ih]
end Ar

/-
  Arrays in memory: what it is that cells hold a tree ('IsArr'), kept from world to world.
-/
namespace Go.Proofs.YtfiefglagknclaaGreatDoor
open Go.RowKit Ar
set_option linter.unusedVariables false

/-- A slice value that holds n elements of so many bytes each. -/
def Fits (n c bytes : Nat) : Prop := n ≤ c ∧ n * bytes ≤ 140737488351232 ∧ c ≤ 9223372036854775807
theorem Fits.le {n c bytes : Nat} (h : Fits n c bytes) (hb : 1 ≤ bytes) : n ≤ c ∧ n ≤ 140737488351232 := by
  refine ⟨h.1, ?_⟩
  have h1 := Nat.mul_le_mul_left n hb
  have h2 := h.2.1
  omega
def Wf64 (l : List Int) : Prop := ∀ n ∈ l, -9223372036854775808 ≤ n ∧ n ≤ 9223372036854775807
def Wf32 (l : List Nat) : Prop := ∀ n ∈ l, n < 4294967296
def I64 (l : List Int) : List Value := l.map (Value.int .i64)
def U32 (l : List Nat) : List Value := l.map fun n : Nat => Value.int .u32 (n : Int)

mutual
/-- Three cells hold an array. -/
def IsArr (w : World) (B : Nat) : Arr → List Value → Prop
  | .mk S shape cells, vs => ∃ A c A' c' us, vs = [.int .u64 (S : Int), .slice A shape.length c, .slice A' cells.length c'] ∧ S < 18446744073709551616 ∧ Fits shape.length c 8 ∧ Fits cells.length c' 104 ∧ Wf64 shape ∧
      Lies w B A (I64 shape) ∧ Lies w B A' us ∧ IsCels w B cells us
def IsCels (w : World) (B : Nat) : List Cel → List Value → Prop
  | [], vs => vs = []
  | c :: r, vs => ∃ u t, vs = u ++ t ∧ IsCel w B c u ∧ IsCels w B r t
/-- Seven cells hold a cell. -/
def IsCel (w : World) (B : Nat) : Cel → List Value → Prop
  | .mk L kind neg top bot ch ins, vs => ∃ A c A' c' A'' c'' us, vs = [.int .u64 (L : Int), .int .i64 kind, .bool neg, .slice A top.length c, .slice A' bot.length c', .int .i64 ch, .slice A'' ins.length c''] ∧
      L < 18446744073709551616 ∧ Fits top.length c 4 ∧ Fits bot.length c' 4 ∧ Fits ins.length c'' 56 ∧ Wf64 [kind, ch] ∧ Wf32 top ∧ Wf32 bot ∧ Lies w B A (U32 top) ∧ Lies w B A' (U32 bot) ∧ Lies w B A'' us ∧ IsArrs w B ins us ∧ (A = none → c = 0) ∧ (A' = none → c' = 0)
def IsArrs (w : World) (B : Nat) : List Arr → List Value → Prop
  | [], vs => vs = []
  | a :: r, vs => ∃ u t, vs = u ++ t ∧ IsArr w B a u ∧ IsArrs w B r t
end

theorem IsArr.len {w : World} {B : Nat} {a : Arr} {vs : List Value} (h : IsArr w B a vs) : vs.length = 3 := by
  cases a; rw [IsArr] at h
  obtain ⟨A, c, A', c', us, rfl, _⟩ := h
  rfl
theorem IsCel.len {w : World} {B : Nat} {a : Cel} {vs : List Value} (h : IsCel w B a vs) : vs.length = 7 := by
  cases a; rw [IsCel] at h
  obtain ⟨A, c, A', c', A2, c2, us, rfl, _⟩ := h
  rfl

mutual
theorem IsArr.keep {w w' : World} {B B' : Nat} (hk : ∀ p : Addr, p.block < B → w'.cell? p = w.cell? p) (hB : B ≤ B') : ∀ (a : Arr) (vs : List Value), IsArr w B a vs → IsArr w' B' a vs
  | .mk S shape cells, vs, h => by
    rw [IsArr] at h ⊢
    obtain ⟨A, c, A', c', us, h1, h2, h3, h4, h5, h6, h7, h8⟩ := h
    exact ⟨A, c, A', c', us, h1, h2, h3, h4, h5, (h6.keep hk).more hB, (h7.keep hk).more hB, IsCels.keep hk hB cells us h8⟩
theorem IsCels.keep {w w' : World} {B B' : Nat} (hk : ∀ p : Addr, p.block < B → w'.cell? p = w.cell? p) (hB : B ≤ B') : ∀ (a : List Cel) (vs : List Value), IsCels w B a vs → IsCels w' B' a vs
  | [], vs, h => by rw [IsCels] at h ⊢; exact h
  | c :: r, vs, h => by
    rw [IsCels] at h ⊢
    obtain ⟨u, t, h1, h2, h3⟩ := h
    exact ⟨u, t, h1, IsCel.keep hk hB c u h2, IsCels.keep hk hB r t h3⟩
theorem IsCel.keep {w w' : World} {B B' : Nat} (hk : ∀ p : Addr, p.block < B → w'.cell? p = w.cell? p) (hB : B ≤ B') : ∀ (a : Cel) (vs : List Value), IsCel w B a vs → IsCel w' B' a vs
  | .mk L kind neg top bot ch ins, vs, h => by
    rw [IsCel] at h ⊢
    obtain ⟨A, c, A', c', A2, c2, us, h1, h2, h3, h4, h5, h6, h7, h8, h9, h10, h11, h12⟩ := h
    exact ⟨A, c, A', c', A2, c2, us, h1, h2, h3, h4, h5, h6, h7, h8, (h9.keep hk).more hB, (h10.keep hk).more hB, (h11.keep hk).more hB, IsArrs.keep hk hB ins us h12.1, h12.2⟩
theorem IsArrs.keep {w w' : World} {B B' : Nat} (hk : ∀ p : Addr, p.block < B → w'.cell? p = w.cell? p) (hB : B ≤ B') : ∀ (a : List Arr) (vs : List Value), IsArrs w B a vs → IsArrs w' B' a vs
  | [], vs, h => by rw [IsArrs] at h ⊢; exact h
  | c :: r, vs, h => by
    rw [IsArrs] at h ⊢
    obtain ⟨u, t, h1, h2, h3⟩ := h
    exact ⟨u, t, h1, IsArr.keep hk hB c u h2, IsArrs.keep hk hB r t h3⟩
end
theorem IsArr.below {w w' : World} {B : Nat} {a : Arr} {vs : List Value} (h : IsArr w B a vs) (hb : Below B w w') : IsArr w' B a vs := IsArr.keep (fun _ hp => hb.cell hp) (Nat.le_refl _) a vs h
theorem IsArr.more {w : World} {B B' : Nat} {a : Arr} {vs : List Value} (h : IsArr w B a vs) (hB : B ≤ B') : IsArr w B' a vs := IsArr.keep (fun _ _ => rfl) hB a vs h
theorem IsCel.below {w w' : World} {B : Nat} {a : Cel} {vs : List Value} (h : IsCel w B a vs) (hb : Below B w w') : IsCel w' B a vs := IsCel.keep (fun _ hp => hb.cell hp) (Nat.le_refl _) a vs h
theorem IsArrs.below {w w' : World} {B : Nat} {a : List Arr} {vs : List Value} (h : IsArrs w B a vs) (hb : Below B w w') : IsArrs w' B a vs := IsArrs.keep (fun _ hp => hb.cell hp) (Nat.le_refl _) a vs h
theorem IsCels.below {w w' : World} {B : Nat} {a : List Cel} {vs : List Value} (h : IsCels w B a vs) (hb : Below B w w') : IsCels w' B a vs := IsCels.keep (fun _ hp => hb.cell hp) (Nat.le_refl _) a vs h

theorem IsCels.at_ {w : World} {B : Nat} : ∀ {cs : List Cel} {vs : List Value} (h : IsCels w B cs vs) {k : Nat} (hk : k < cs.length), ∃ u, IsCel w B cs[k] u ∧ u = (vs.drop (7 * k)).take 7
  | [], _, _, _, hk => by simp at hk
  | c :: r, vs, h, 0, _ => by
    rw [IsCels] at h
    obtain ⟨u, t, rfl, h2, h3⟩ := h
    exact ⟨u, h2, by simp [h2.len]⟩
  | c :: r, vs, h, k + 1, hk => by
    rw [IsCels] at h
    obtain ⟨u, t, rfl, h2, h3⟩ := h
    obtain ⟨u', h4, h5⟩ := h3.at_ (k := k) (by simpa using hk)
    refine ⟨u', h4, h5.trans ?_⟩
    rw [show 7 * (k + 1) = u.length + 7 * k by rw [h2.len]; omega, List.drop_append, List.drop_eq_nil_of_le (Nat.le_add_right _ _), Nat.add_sub_cancel_left, List.nil_append]
theorem IsArrs.at_ {w : World} {B : Nat} : ∀ {cs : List Arr} {vs : List Value} (h : IsArrs w B cs vs) {k : Nat} (hk : k < cs.length), ∃ u, IsArr w B cs[k] u ∧ u = (vs.drop (3 * k)).take 3
  | [], _, _, _, hk => by simp at hk
  | c :: r, vs, h, 0, _ => by
    rw [IsArrs] at h
    obtain ⟨u, t, rfl, h2, h3⟩ := h
    exact ⟨u, h2, by simp [h2.len]⟩
  | c :: r, vs, h, k + 1, hk => by
    rw [IsArrs] at h
    obtain ⟨u, t, rfl, h2, h3⟩ := h
    obtain ⟨u', h4, h5⟩ := h3.at_ (k := k) (by simpa using hk)
    refine ⟨u', h4, h5.trans ?_⟩
    rw [show 3 * (k + 1) = u.length + 3 * k by rw [h2.len]; omega, List.drop_append, List.drop_eq_nil_of_le (Nat.le_add_right _ _), Nat.add_sub_cancel_left, List.nil_append]
theorem IsCels.len {w : World} {B : Nat} : ∀ {cs : List Cel} {vs : List Value} (h : IsCels w B cs vs), vs.length = 7 * cs.length
  | [], _, h => by rw [IsCels] at h; subst h; rfl
  | c :: r, vs, h => by
    rw [IsCels] at h
    obtain ⟨u, t, rfl, h2, h3⟩ := h
    rw [List.length_append, h2.len, h3.len, List.length_cons]; omega
theorem IsArrs.len {w : World} {B : Nat} : ∀ {cs : List Arr} {vs : List Value} (h : IsArrs w B cs vs), vs.length = 3 * cs.length
  | [], _, h => by rw [IsArrs] at h; subst h; rfl
  | c :: r, vs, h => by
    rw [IsArrs] at h
    obtain ⟨u, t, rfl, h2, h3⟩ := h
    rw [List.length_append, h2.len, h3.len, List.length_cons]; omega
theorem IsCels.snoc {w : World} {B : Nat} : ∀ {cs : List Cel} {vs : List Value} (h : IsCels w B cs vs) {c : Cel} {u : List Value} (hc : IsCel w B c u), IsCels w B (cs ++ [c]) (vs ++ u)
  | [], vs, h, c, u, hc => by
    rw [IsCels] at h; subst h
    show IsCels w B [c] _
    rw [IsCels]; exact ⟨u, [], by simp, hc, by rw [IsCels]⟩
  | x :: r, vs, h, c, u, hc => by
    rw [IsCels] at h
    obtain ⟨u', t, rfl, h2, h3⟩ := h
    show IsCels w B (x :: (r ++ [c])) _
    rw [IsCels]; exact ⟨u', t ++ u, by simp, h2, h3.snoc hc⟩
theorem IsArrs.snoc {w : World} {B : Nat} : ∀ {cs : List Arr} {vs : List Value} (h : IsArrs w B cs vs) {c : Arr} {u : List Value} (hc : IsArr w B c u), IsArrs w B (cs ++ [c]) (vs ++ u)
  | [], vs, h, c, u, hc => by
    rw [IsArrs] at h; subst h
    show IsArrs w B [c] _
    rw [IsArrs]; exact ⟨u, [], by simp, hc, by rw [IsArrs]⟩
  | x :: r, vs, h, c, u, hc => by
    rw [IsArrs] at h
    obtain ⟨u', t, rfl, h2, h3⟩ := h
    show IsArrs w B (x :: (r ++ [c])) _
    rw [IsArrs]; exact ⟨u', t ++ u, by simp, h2, h3.snoc hc⟩

/-- The cells of the k-th element of a row of elements of so many cells each. -/
theorem Lies.elem {w : World} {B : Nat} {A : Option Addr} {vs : List Value} (h : Lies w B A vs) {m k : Nat} {u : List Value} (hu : u = (vs.drop (m * k)).take m) (hn : u ≠ []) :
    ∃ b off, A = some ⟨b, off, none⟩ ∧ b < B ∧ ∀ j v, u[j]? = some v → w.cell? ⟨b, off + k * m + j, none⟩ = some v := by
  rcases h with h | ⟨b, off, hA, hb, hc⟩
  · subst h; simp at hu; exact absurd hu hn
  · refine ⟨b, off, hA, hb, fun j v hv => ?_⟩
    have := hc (k * m + j) v (by
      rw [hu, List.getElem?_take] at hv
      split at hv
      · rw [List.getElem?_drop] at hv; rw [← hv, Nat.mul_comm]
      · cases hv)
    rw [← this, Nat.add_assoc]

/-- What stands behind the slices of a cell. -/
structure CelIn (w : World) (B : Nat) (ce : Cel) (L : Nat) (kind : Int) (neg : Bool) (top bot : List Nat) (ch : Int) (ins : List Arr) (A1 A2 A3 : Option Addr) (c1 c2 c3 : Nat) (us : List Value) : Prop where
  eq : ce = .mk L kind neg top bot ch ins
  lt : Lies w B A1 (U32 top)
  lb : Lies w B A2 (U32 bot)
  li : Lies w B A3 us
  arrs : IsArrs w B ins us
  wt : Wf32 top
  wb : Wf32 bot
  wk : Wf64 [kind, ch]
  ft : Fits top.length c1 4
  fb : Fits bot.length c2 4
  fi : Fits ins.length c3 56
  nt : A1 = none → c1 = 0
  nb : A2 = none → c2 = 0
/-- The k-th cell of an array, read. -/
theorem cel_at {w wr : World} {B : Nat} {A : Option Addr} {cells : List Cel} {us : List Value} {k : Nat} (hcs : IsCels w B cells us) (hl : Lies w B A us) (hk : ∀ p : Addr, p.block < B → wr.cell? p = w.cell? p) (hlt : k < cells.length) :
    ∃ b off L kind neg top bot ch ins A1 c1 A2 c2 A3 c3 us3, A = some ⟨b, off, none⟩ ∧ b < B ∧ L < 18446744073709551616 ∧ Hid (CelIn w B cells[k] L kind neg top bot ch ins A1 A2 A3 c1 c2 c3 us3) ∧
      top.length ≤ c1 ∧ top.length ≤ 35184372088832 ∧ bot.length ≤ c2 ∧ bot.length ≤ 35184372088832 ∧ ins.length ≤ c3 ∧ ins.length ≤ 35184372088832 ∧
      wr.cell? ⟨b, off + k * 7, none⟩ = some (.int .u64 (L : Int)) ∧ wr.cell? ⟨b, off + k * 7 + 1, none⟩ = some (.int .i64 kind) ∧ wr.cell? ⟨b, off + k * 7 + 2, none⟩ = some (.bool neg) ∧
      wr.cell? ⟨b, off + k * 7 + 3, none⟩ = some (.slice A1 top.length c1) ∧ wr.cell? ⟨b, off + k * 7 + 4, none⟩ = some (.slice A2 bot.length c2) ∧ wr.cell? ⟨b, off + k * 7 + 5, none⟩ = some (.int .i64 ch) ∧
      wr.cell? ⟨b, off + k * 7 + 6, none⟩ = some (.slice A3 ins.length c3) := by
  obtain ⟨u, hu, hue⟩ := hcs.at_ hlt
  obtain ⟨b, off, rfl, hb, hcell⟩ := hl.elem hue (by intro h; have := hu.len; rw [h] at this; cases this)
  obtain ⟨ce, hce⟩ : ∃ ce, ce = cells[k] := ⟨_, rfl⟩
  rw [← hce] at hu ⊢
  obtain ⟨L, kind, neg, top, bot, ch, ins⟩ := ce
  rw [IsCel] at hu
  obtain ⟨A1, c1, A2, c2, A3, c3, us3, rfl, hL, hf1, hf2, hf3, hw1, hw2, hw3, hl1, hl2, hl3, hins, hnt, hnb⟩ := hu
  have hc : ∀ j v, [Value.int .u64 (L : Int), .int .i64 kind, .bool neg, .slice A1 top.length c1, .slice A2 bot.length c2, .int .i64 ch, .slice A3 ins.length c3][j]? = some v → wr.cell? ⟨b, off + k * 7 + j, none⟩ = some v := fun j v hv => (hk ⟨b, off + k * 7 + j, none⟩ hb).trans (hcell j v hv)
  have h1 := hf1.2
  have h2 := hf2.2
  have h3 := hf3.2
  exact ⟨b, off, L, kind, neg, top, bot, ch, ins, A1, c1, A2, c2, A3, c3, us3, rfl, hb, hL, Lib.hid ⟨rfl, hl1, hl2, hl3, hins, hw2, hw3, hw1, hf1, hf2, hf3, hnt, hnb⟩, hf1.1, by omega, hf2.1, by omega, hf3.1, by omega, hc 0 _ rfl, hc 1 _ rfl, hc 2 _ rfl, hc 3 _ rfl, hc 4 _ rfl, hc 5 _ rfl, hc 6 _ rfl⟩
/-- The form of an array's three cells. -/
theorem IsArr.form {w : World} {B : Nat} {a : Arr} {vs : List Value} (h : IsArr w B a vs) : ∃ (S : Nat) (A : Option Addr) (n c : Nat) (A' : Option Addr) (n' c' : Nat), vs = [.int .u64 (S : Int), .slice A n c, .slice A' n' c'] := by
  cases a; rw [IsArr] at h
  obtain ⟨A, c, A', c', us, rfl, _⟩ := h
  exact ⟨_, _, _, _, _, _, _, rfl⟩
/-- The k-th array of a list of arrays, read. -/
theorem arr_at {w wr : World} {B : Nat} {A : Option Addr} {arrs : List Arr} {us : List Value} {k : Nat} (hcs : IsArrs w B arrs us) (hl : Lies w B A us) (hk : ∀ p : Addr, p.block < B → wr.cell? p = w.cell? p) (hlt : k < arrs.length) :
    ∃ (b off S' : Nat) (X : Option Addr) (n c : Nat) (X' : Option Addr) (n' c' : Nat), A = some ⟨b, off, none⟩ ∧ b < B ∧ Hid (IsArr w B arrs[k] [.int .u64 (S' : Int), .slice X n c, .slice X' n' c']) ∧ wr.cell? ⟨b, off + k * 3, none⟩ = some (.int .u64 (S' : Int)) ∧ wr.cell? ⟨b, off + k * 3 + 1, none⟩ = some (.slice X n c) ∧ wr.cell? ⟨b, off + k * 3 + 2, none⟩ = some (.slice X' n' c') := by
  obtain ⟨u, hu, hue⟩ := hcs.at_ hlt
  obtain ⟨b, off, rfl, hb, hcell⟩ := hl.elem hue (by intro h; have := hu.len; rw [h] at this; cases this)
  obtain ⟨S, X, n, c, X', n', c', rfl⟩ := hu.form
  have hc : ∀ j v, [Value.int .u64 (S : Int), .slice X n c, .slice X' n' c'][j]? = some v → wr.cell? ⟨b, off + k * 3 + j, none⟩ = some v := fun j v hv => (hk ⟨b, off + k * 3 + j, none⟩ hb).trans (hcell j v hv)
  exact ⟨b, off, S, X, n, c, X', n', c', rfl, hb, Lib.hid hu, hc 0 _ rfl, hc 1 _ rfl, hc 2 _ rfl⟩
mutual
theorem tot_lt {w : World} {B : Nat} : ∀ (a : Arr) (vs : List Value), IsArr w B a vs → tot a < 18446744073709551616
  | .mk S shape cells, vs, h => by
    rw [IsArr] at h
    obtain ⟨A, c, A', c', us, h1, h2, h3, h4, h5, h6, h7, h8⟩ := h
    exact totCels_lt cells us S h8 h2
theorem totCels_lt {w : World} {B : Nat} : ∀ (a : List Cel) (vs : List Value) (x : Nat), IsCels w B a vs → x < 18446744073709551616 → totCels x a < 18446744073709551616
  | [], vs, x, h, hx => by rw [totCels]; exact hx
  | c :: r, vs, x, h, hx => by
    rw [IsCels] at h
    obtain ⟨u, t, h1, h2, h3⟩ := h
    rw [totCels]
    exact totCels_lt r t _ h3 (totCel_lt c u x h2 hx)
theorem totCel_lt {w : World} {B : Nat} : ∀ (a : Cel) (vs : List Value) (x : Nat), IsCel w B a vs → x < 18446744073709551616 → totCel x a < 18446744073709551616
  | .mk L kind neg top bot ch ins, vs, x, h, hx => by
    rw [IsCel] at h
    obtain ⟨A, c, A', c', A2, c2, us, h1, h2, h3, h4, h5, h6, h7, h8, h9, h10, h11, h12⟩ := h
    rw [totCel]
    exact totArrs_lt ins us _ h12.1 (Nat.or_lt_two_pow (n := 64) hx h2)
theorem totArrs_lt {w : World} {B : Nat} : ∀ (a : List Arr) (vs : List Value) (x : Nat), IsArrs w B a vs → x < 18446744073709551616 → totArrs x a < 18446744073709551616
  | [], vs, x, h, hx => by rw [totArrs]; exact hx
  | c :: r, vs, x, h, hx => by
    rw [IsArrs] at h
    obtain ⟨u, t, h1, h2, h3⟩ := h
    rw [totArrs]
    exact totArrs_lt r t _ h3 (Nat.or_lt_two_pow (n := 64) hx (tot_lt c u h2))
end
theorem size_ins {S : Nat} {shape : List Int} {cells : List Cel} {k : Nat} (hk : k < cells.length) {L : Nat} {kind : Int} {neg : Bool} {top bot : List Nat} {ch : Int} {ins : List Arr} (he : cells[k] = .mk L kind neg top bot ch ins) {i : Nat} (hi : i < ins.length) :
    SizeOf.sizeOf ins[i] < SizeOf.sizeOf (Arr.mk S shape cells) := by
  have h1 := List.sizeOf_lt_of_mem (List.getElem_mem hi)
  have h2 := List.sizeOf_lt_of_mem (List.getElem_mem hk)
  rw [he] at h2
  simp only [Arr.mk.sizeOf_spec, Cel.mk.sizeOf_spec] at *
  omega
end Go.Proofs.YtfiefglagknclaaGreatDoor

/-
  Lists compared: slices.Equal, and the reference's. (Printed by wip/bin/gen_same1.py.)
-/
namespace Go.Proofs.YtfiefglagknclaaGreatDoor
open Go.RowKit Ar
set_option maxHeartbeats 1000000
set_option linter.unusedVariables false

theorem beq_at {α : Type} [BEq α] [LawfulBEq α] {l l' : List α} {k : Nat} (h : k < l.length) (h' : k < l'.length) (hne : l[k] ≠ l'[k]) : (l == l') = false := by
  rw [beq_eq_false_iff_ne]
  rintro rfl
  exact hne rfl
theorem beq_take {α : Type} [BEq α] [LawfulBEq α] {l l' : List α} {k : Nat} (hl : l.length = l'.length) (hk : k = l.length) (h : l.take k = l'.take k) : (l == l') = true := by
  rw [beq_iff_eq]
  rwa [hk, List.take_length, hl, List.take_length] at h
theorem beq_len {α : Type} [BEq α] [LawfulBEq α] {l l' : List α} (h : l.length ≠ l'.length) : (l == l') = false := by
  rw [beq_eq_false_iff_ne]
  rintro rfl
  exact h rfl
theorem take_more {α : Type} {l l' : List α} {k : Nat} (h : k < l.length) (h' : k < l'.length) (he : l.take k = l'.take k) (hk : l[k] = l'[k]) : l.take (k + 1) = l'.take (k + 1) := by
  rw [List.take_succ_eq_append_getElem h, List.take_succ_eq_append_getElem h', he, hk]
theorem below_drewN' {B : Nat} {w w' : World} (h : Below B w w') (n : Nat) : Below B w (w'.drewN n) := ⟨h.os, h.tape, h.output, h.size, h.block⟩
theorem lies_i64 {w : World} {B : Nat} {A : Option Addr} {l : List Int} (h : Lies w B A (I64 l)) {k : Nat} (hk : k < l.length) : ∃ b off, A = some ⟨b, off, none⟩ ∧ b < B ∧ w.cell? ⟨b, off + k, none⟩ = some (.int .i64 l[k]) := by
  obtain ⟨b, off, h1, h2, h3⟩ := h.at_ (k := k) (by simpa [I64] using hk)
  exact ⟨b, off, h1, h2, by rw [h3]; simp [I64]⟩
theorem lies_u32 {w : World} {B : Nat} {A : Option Addr} {l : List Nat} (h : Lies w B A (U32 l)) {k : Nat} (hk : k < l.length) : ∃ b off, A = some ⟨b, off, none⟩ ∧ b < B ∧ w.cell? ⟨b, off + k, none⟩ = some (.int .u32 (l[k] : Int)) := by
  obtain ⟨b, off, h1, h2, h3⟩ := h.at_ (k := k) (by simpa [U32] using hk)
  exact ⟨b, off, h1, h2, by rw [h3]; simp [U32]⟩

theorem refSame2_any (l l' : List Nat) (A A' : Option Addr) (c c' : Nat) (w : World) (B : Nat) (hA : Lies w B A (U32 l)) (hA' : Lies w B A' (U32 l')) (hn : l.length ≤ 9223372036854775807) (hn' : l'.length ≤ 9223372036854775807) :
    Calls Tryz.prog 30 #[.slice A l.length c, .slice A' l'.length c'] w fun e w' => e = .returned (.bool (l == l')) ∧ Below w.heap.size w w' := by
  have HA := Lib.hid hA
  have HA' := Lib.hid hA'
  clear hA hA'
  by_cases hne : l.length = l'.length
  · have hd : (l.length != l'.length) = false := by simpa using hne
    have hln : l.length ≤ l'.length := by omega
    have HN := Lib.hid hne
    clear hne
    go_enter Tryz.func30, Tryz.ntmps30
    go_wp2_with fail
    go_loopw [5] (fun i wr => ∃ k n : Nat, k ≤ l.length ∧ i = .int .i64 k ∧ wr = w.drewN n ∧ Hid (l.take k = l'.take k)) (fun i _ => l.length - (intOf i).toNat)
    case atStart => exact ⟨0, 0, Nat.zero_le _, rfl, rfl, Lib.hid rfl⟩
    case round =>
      obtain ⟨k, n, hk, rfl, rfl, HT⟩ := hrel
      by_cases hlt : k < l.length
      · have hlt' : k < l'.length := by omega
        obtain ⟨b, off, rfl, hb, g0⟩ := lies_u32 HA.out hlt
        obtain ⟨b', off', rfl, hb', g1⟩ := lies_u32 HA'.out hlt'
        have HM := Lib.hid (take_more hlt hlt' HT.out)
        have HZ := Lib.hid (beq_at (l := l) (l' := l') hlt hlt')
        generalize l[k] = x at g0 HM HZ
        generalize l'[k] = y at g1 HM HZ
        have hk0 : (0 : Int) ≤ (k : Int) := by omega
        have hk1 : (k : Int) < (l.length : Int) := by omega
        have hk2 : (k : Int) < (l'.length : Int) := by omega
        by_cases hxy : x = y
        · subst hxy
          have e1 : (x != x) = false := by simp
          have HM2 := Lib.hid (HM.out rfl)
          clear HM HZ
          go_wp2_with fail
          go_quiet (fail)
          go_wp2_with fail
          go_roundw
          case rel => exact ⟨k + 1, n + nq, by omega, by go_num, rfl, HM2⟩
          case measure => simp [intOf]; omega
        · have e1 : (x != y) = true := by simpa using hxy
          have HZ2 := Lib.hid (HZ.out hxy)
          have e2 : ((x : Int) != (y : Int)) = true := by simp; omega
          clear HM HZ hxy
          go_wp2_with fail
          go_quiet (fail)
          go_wp2_with fail
          go_ret
          exact ⟨ret_bool (by rw [HZ2.out]), below_drewN' (below_drewN' (Below.refl _ _) _) _⟩
      · have hke : k = l.length := by omega
        have HZ2 := Lib.hid (beq_take HN.out hke HT.out)
        clear hke HT
        go_wp2_with fail
        go_ret
        exact ⟨ret_bool (by rw [HZ2.out]), below_drewN' (Below.refl _ _) _⟩
  · have hd : (l.length != l'.length) = true := by simpa using hne
    have HZ2 := Lib.hid (beq_len hne)
    clear hne
    go_enter Tryz.func30, Tryz.ntmps30
    go_wp2_with fail
    go_ret
    exact ⟨ret_bool (by rw [HZ2.out]), Below.refl _ _⟩
end Go.Proofs.YtfiefglagknclaaGreatDoor

/-
  token.digit, token.letter: what stands at a place of a line.
-/
namespace Go.Proofs.YtfiefglagknclaaGreatDoor
open Go.RowKit
set_option maxHeartbeats 2000000
set_option maxRecDepth 100000
set_option linter.unusedVariables false

theorem digit_any (A : Option Addr) (c : Nat) (l : List Int) (i : Nat) (w : World) (hl : Lies w w.heap.size A (I64 l)) (hn : l.length ≤ 1000000) (hi : i ≤ 1000000) :
    Calls Tryz.prog 100 #[.slice A l.length c, .int .i64 (i : Int)] w fun e w' => e = .returned (.bool (Tk.digit (l.getD i (-1)))) ∧ w = w' := by
  by_cases hlt : i < l.length
  · obtain ⟨b, off, rfl, hb, g0⟩ := lies_i64 hl hlt
    rw [Tk.getD_in hlt]
    generalize l[i] = x at *
    clear hl
    by_cases h1 : 48 ≤ x
    · by_cases h2 : x ≤ 57
      · have E : Hid (Tk.digit x = true) := Lib.hid (by unfold Tk.digit; simp; omega)
        go_enter Tryz.func100, Tryz.ntmps100
        go_wp2_with fail
        go_ret
        exact ⟨ret_bool E.out.symm, rfl⟩
      · have E : Hid (Tk.digit x = false) := Lib.hid (by unfold Tk.digit; simp; omega)
        have q : decide (x ≤ 57) = false := decide_eq_false h2
        go_enter Tryz.func100, Tryz.ntmps100
        go_wp2_with fail
        go_ret
        exact ⟨ret_bool E.out.symm, rfl⟩
    · have E : Hid (Tk.digit x = false) := Lib.hid (by unfold Tk.digit; simp; omega)
      have q : decide (48 ≤ x) = false := decide_eq_false h1
      go_enter Tryz.func100, Tryz.ntmps100
      go_wp2_with fail
      go_ret
      exact ⟨ret_bool E.out.symm, rfl⟩
  · have E : Hid (Tk.digit (l.getD i (-1)) = false) := Lib.hid (by rw [Tk.getD_out (by omega)]; rfl)
    clear hl
    generalize Tk.digit (l.getD i (-1)) = R at *
    generalize l.length = n at *
    go_enter Tryz.func100, Tryz.ntmps100
    go_wp2_with fail
    go_ret
    exact ⟨ret_bool E.out.symm, rfl⟩

theorem letter_any (A : Option Addr) (c : Nat) (l : List Int) (i : Nat) (w : World) (hl : Lies w w.heap.size A (I64 l)) (hn : l.length ≤ 1000000) (hi : i ≤ 1000000) :
    Calls Tryz.prog 101 #[.slice A l.length c, .int .i64 (i : Int)] w fun e w' => e = .returned (.bool (Tk.cls (l.getD i (-1)) == 2)) ∧ w = w' := by
  by_cases hlt : i < l.length
  · obtain ⟨b, off, rfl, hb, g0⟩ := lies_i64 hl hlt
    rw [Tk.getD_in hlt]
    generalize l[i] = x at *
    have CL := Lib.hid (fun wx => class_any x wx)
    generalize Tk.cls x = k at *
    clear hl
    go_enter Tryz.func101, Tryz.ntmps101
    go_wp2_with fail
    refine (CL.out _).mono ?_
    rintro e w' ⟨rfl, rfl⟩
    go_wp2_with fail
    go_ret
    exact ⟨rfl, rfl⟩
  · have E : Hid ((Tk.cls (l.getD i (-1)) == 2) = false) := Lib.hid (by rw [Tk.getD_out (by omega)]; decide)
    clear hl
    generalize (Tk.cls (l.getD i (-1)) == 2) = R at *
    generalize l.length = n at *
    go_enter Tryz.func101, Tryz.ntmps101
    go_wp2_with fail
    go_ret
    exact ⟨ret_bool E.out.symm, rfl⟩
theorem may_any (x : Int) (w : World) :
    Calls Tryz.prog 121 #[.int .i64 x] w fun e w' => e = .returned (.bool (Gl.may x)) ∧ w = w' := by
  have HE : Hid (Gl.may x = (decide (0 ≤ x) && decide (x ≤ 1114111) && (decide (x < 55296) || decide (57343 < x)))) := Lib.hid rfl
  by_cases h0 : 0 ≤ x
  · by_cases h1 : x ≤ 1114111
    · by_cases h2 : x < 55296
      · have E : Hid (Gl.may x = true) := Lib.hid (by rw [HE.out]; simp; omega)
        go_enter Tryz.func121, Tryz.ntmps121
        go_wp2_with fail
        go_ret
        exact ⟨ret_bool E.out.symm, rfl⟩
      · have q2 : decide (x < 55296) = false := decide_eq_false h2
        by_cases h3 : 57343 < x
        · have E : Hid (Gl.may x = true) := Lib.hid (by rw [HE.out]; simp; omega)
          go_enter Tryz.func121, Tryz.ntmps121
          go_wp2_with fail
          go_ret
          exact ⟨ret_bool E.out.symm, rfl⟩
        · have q3 : decide (57343 < x) = false := decide_eq_false h3
          have E : Hid (Gl.may x = false) := Lib.hid (by rw [HE.out]; simp; omega)
          go_enter Tryz.func121, Tryz.ntmps121
          go_wp2_with fail
          go_ret
          exact ⟨ret_bool E.out.symm, rfl⟩
    · have q1 : decide (x ≤ 1114111) = false := decide_eq_false h1
      have E : Hid (Gl.may x = false) := Lib.hid (by rw [HE.out, q1]; simp)
      go_enter Tryz.func121, Tryz.ntmps121
      go_wp2_with fail
      go_ret
      exact ⟨ret_bool E.out.symm, rfl⟩
  · have q0 : decide (0 ≤ x) = false := decide_eq_false h0
    have E : Hid (Gl.may x = false) := Lib.hid (by rw [HE.out, q0]; simp)
    go_enter Tryz.func121, Tryz.ntmps121
    go_wp2_with fail
    go_ret
    exact ⟨ret_bool E.out.symm, rfl⟩
end Go.Proofs.YtfiefglagknclaaGreatDoor

/-
  Characters and bytes, plain: the sign of no character (U+FFFD), and how it is told from a byte that is none's.
-/
namespace Gl
open Go
set_option linter.unusedVariables false
theorem by_list (s : ByteArray) {i : Nat} (h : i < s.data.toList.length) : by_ s i = (s.data.toList[i]).toNat := by
  unfold by_
  rw [get_at (show i < s.size from h)]
  rfl
theorem pre3 {x y z : UInt8} : ∀ {l : List UInt8}, List.isPrefixOf [x, y, z] l = true ↔ ∃ r, l = x :: y :: z :: r
  | [] => by simp [List.isPrefixOf]
  | [a] => by simp [List.isPrefixOf]
  | [a, b] => by simp [List.isPrefixOf]
  | a :: b :: c :: r => by
    simp only [List.isPrefixOf, Bool.and_true, Bool.and_eq_true, beq_iff_eq, List.cons.injEq]
    constructor
    · rintro ⟨h1, h2, h3⟩; exact ⟨r, h1.symm, h2.symm, h3.symm, rfl⟩
    · rintro ⟨r', h1, h2, h3, _⟩; exact ⟨h1.symm, h2.symm, h3.symm⟩
/-- Do the three bytes of U+FFFD stand from a place on? -/
theorem sub_iff (s : ByteArray) (i : Nat) : Lib.hasPrefix (s.data.toList.drop i) [239, 191, 189] = true ↔ i + 2 < s.size ∧ by_ s i = 239 ∧ by_ s (i + 1) = 191 ∧ by_ s (i + 2) = 189 := by
  have hsz : s.data.toList.length = s.size := rfl
  unfold Lib.hasPrefix
  rw [pre3]
  constructor
  · rintro ⟨r, hr⟩
    have hl := congrArg List.length hr
    rw [List.length_drop] at hl
    simp only [List.length_cons] at hl
    have g : ∀ k (h : i + k < s.data.toList.length), by_ s (i + k) = ((s.data.toList.drop i)[k]'(by rw [List.length_drop]; omega)).toNat := fun k h => by
      rw [by_list s h, List.getElem_drop]
    refine ⟨by omega, ?_, ?_, ?_⟩
    · have := g 0 (by omega); simp only [hr] at this; exact this
    · have := g 1 (by omega); simp only [hr] at this; exact this
    · have := g 2 (by omega); simp only [hr] at this; exact this
  · rintro ⟨h1, h2, h3, h4⟩
    have k1 : i + 1 < s.data.toList.length := by omega
    have k2 : i + 2 < s.data.toList.length := by omega
    have k0 : i < s.data.toList.length := by omega
    rw [by_list s k0] at h2
    rw [by_list s k1] at h3
    rw [by_list s k2] at h4
    refine ⟨s.data.toList.drop (i + 3), ?_⟩
    rw [List.drop_eq_getElem_cons k0, List.drop_eq_getElem_cons k1, List.drop_eq_getElem_cons k2]
    rw [show s.data.toList[i] = 239 from UInt8.toNat_inj.1 h2, show s.data.toList[i + 1] = 191 from UInt8.toNat_inj.1 h3, show s.data.toList[i + 2] = 189 from UInt8.toNat_inj.1 h4]
/-- A byte that is none's: the three bytes don't stand there. -/
theorem sub_no {s : ByteArray} {i : Nat} (hi : i < s.size) (h : read s i = none) : Utf8.decode s i = (65533, 1) ∧ Lib.hasPrefix (s.data.toList.drop i) [239, 191, 189] = false := by
  unfold read at h
  split at h
  · next hd =>
    have hd' : Utf8.decode s i = (65533, 1) := hd
    refine ⟨hd', ?_⟩
    rw [Bool.eq_false_iff]
    intro hp
    obtain ⟨h1, h2, h3, h4⟩ := (sub_iff s i).1 hp
    rw [decode_eq, h2, h3, h4] at hd'
    rw [if_neg (by omega), if_neg (by omega), if_pos ⟨by omega, ⟨by omega, by omega⟩, by omega, by omega⟩] at hd'
    rw [if_pos ⟨by omega, by decide⟩] at hd'
    cases hd'
  · cases h
/-- A character: either it is another one, or its three bytes stand there. -/
theorem sub_yes {s : ByteArray} {i c n : Nat} (hi : i < s.size) (h : read s i = some (c, n)) : Utf8.decode s i = (c, n) ∧ (c = 65533 → Lib.hasPrefix (s.data.toList.drop i) [239, 191, 189] = true) := by
  have hd := (read_some h).1
  have hne := (read_some h).2
  refine ⟨hd, fun hc => ?_⟩
  have hr := refRead_eq s i hi
  rw [h] at hr
  unfold refRead at hr
  split at hr
  · cases hr
  · next c' n' hg =>
    split at hr
    · next hm =>
      injection hr with hr
      injection hr with e1 e2
      subst e1 e2
      subst hc
      obtain ⟨-, ho⟩ := hm
      have hl := congrArg List.length ho
      rw [show one 65533 = [239, 191, 189] from by decide] at ho hl
      simp only [List.length_cons, List.length_nil, List.length_map, List.length_range] at hl
      have hle := read_le hi h
      rw [← hl, range3] at ho
      simp only [List.cons.injEq, and_true] at ho
      exact (sub_iff s i).2 ⟨by omega, ho.1.symm, ho.2.1.symm, ho.2.2.symm⟩
    · cases hr
/-- What has been read, and what is left. -/
def DecAt (s : ByteArray) (pos : Nat) (done : List Nat) : Prop := pos ≤ s.size ∧ dec s 0 = (done ++ (dec s pos).1, (dec s pos).2)
theorem DecAt.start (s : ByteArray) : DecAt s 0 [] := ⟨Nat.zero_le _, by simp⟩
theorem DecAt.step {s : ByteArray} {pos c n : Nat} {done : List Nat} (h : DecAt s pos done) (hp : pos < s.size) (hr : read s pos = some (c, n)) : DecAt s (pos + n) (done ++ [c]) := by
  refine ⟨read_le hp hr, ?_⟩
  rw [h.2, dec_step hp hr]
  simp
theorem DecAt.bad {s : ByteArray} {pos : Nat} {done : List Nat} (h : DecAt s pos done) (hp : pos < s.size) (hr : read s pos = none) : dec s 0 = (done, some pos) := by
  rw [h.2, dec_bad hp hr]; simp
theorem DecAt.done {s : ByteArray} {pos : Nat} {done : List Nat} (h : DecAt s pos done) (hp : ¬ pos < s.size) : dec s 0 = (done, none) := by
  rw [h.2, dec_end (by omega)]; simp
theorem DecAt.len {s : ByteArray} {pos : Nat} {done : List Nat} (h : DecAt s pos done) : done.length ≤ s.size := by
  have h1 := dec_len (s := s) (s.size + 1) 0 (by omega)
  rw [h.2] at h1
  simp at h1
  omega
theorem DecAt.may {s : ByteArray} {pos : Nat} {done : List Nat} (h : DecAt s pos done) : ∀ c ∈ done, Gl.may (c : Int) = true := fun c hc =>
  dec_may (s := s) (s.size + 1) 0 (by omega) c (by rw [h.2]; exact List.mem_append_left _ hc)
end Gl

/-
  Limbs times one limb, and one limb more.
-/
set_option linter.unusedVariables false
namespace Nt
def LenAt (l : List Nat) (b m : Nat) (cur : List Nat) (k c : Nat) : Prop :=
  cur.length = l.length ∧ Ok cur ∧ c < 4294967296 ∧ cur.drop k = l.drop k ∧ val (cur.take k) + c * 4294967296 ^ k = val (l.take k) * b + m
theorem len_start {l : List Nat} {b m : Nat} (h : Ok l) (hm : m < 4294967296) : LenAt l b m l 0 m := ⟨rfl, h, hm, rfl, by simp [val]⟩
theorem len_get {l cur : List Nat} {b m k c : Nat} (h : LenAt l b m cur k c) (hk : k < l.length) : cur[k]? = some l[k] := by
  have : (cur.drop k)[0]? = (l.drop k)[0]? := by rw [h.2.2.2.1]
  rw [List.getElem?_drop, List.getElem?_drop, Nat.add_zero, List.getElem?_eq_getElem hk] at this
  exact this
theorem len_bounds {x b c : Nat} (hx : x < 4294967296) (hb : b < 4294967296) (hc : c < 4294967296) : x * b + c < 18446744073709551616 ∧ (x * b + c) / 4294967296 < 4294967296 ∧ (x * b + c) % 4294967296 < 4294967296 ∧ x * b ≤ 18446744065119617025 := by
  have := mul_bound hx hb
  omega
theorem len_step {l cur : List Nat} {b m k c : Nat} (h : LenAt l b m cur k c) (hk : k < l.length) (hl : Ok l) (hb : b < 4294967296) : LenAt l b m (cur.set k ((l[k] * b + c) % 4294967296)) (k + 1) ((l[k] * b + c) / 4294967296) := by
  obtain ⟨h1, h2, h3, h4, h5⟩ := h
  have hbd := len_bounds (ok_get hl hk) hb h3
  refine ⟨by simpa using h1, ok_set h2 hbd.2.2.1, hbd.2.1, ?_, ?_⟩
  · rw [drop_set]
    have := congrArg (List.drop 1) h4
    rw [List.drop_drop, List.drop_drop] at this
    exact this
  · rw [set_take (by omega), val_take_succ hk, Nat.pow_succ]
    have e := Nat.div_add_mod (l[k] * b + c) 4294967296
    generalize (l[k] * b + c) / 4294967296 = q at *
    generalize (l[k] * b + c) % 4294967296 = r at *
    generalize 4294967296 ^ k = p at h5 ⊢
    generalize l[k] = x at *
    grind
theorem len_end {x b m c : Nat} {cur : List Nat} (h : LenAt (digs x) b m cur (digs x).length c) : val cur + c * 4294967296 ^ (digs x).length = x * b + m := by
  obtain ⟨h1, h2, h3, h4, h5⟩ := h
  rw [List.take_of_length_le (by omega), List.take_of_length_le (by omega), val_digs] at h5
  exact h5
theorem len_done0 {x b m : Nat} {cur : List Nat} (h : LenAt (digs x) b m cur (digs x).length 0) (hb : 1 ≤ b) : digs (x * b + m) = cur := by
  have e := len_end h
  rw [Nat.zero_mul, Nat.add_zero] at e
  rw [← e]
  refine eq_digs h.2.1 fun hne => ?_
  rw [h.1, e]
  have hx : x ≠ 0 := by
    rintro rfl
    have := h.1
    rw [digs_zero] at this
    exact hne (List.eq_nil_of_length_eq_zero this)
  have h1 := digs_ge hx
  have h2 : x * 1 ≤ x * b := Nat.mul_le_mul_left _ hb
  omega
theorem len_done1 {x b m c : Nat} {cur : List Nat} (h : LenAt (digs x) b m cur (digs x).length c) (hc : c ≠ 0) : digs (x * b + m) = cur ++ [c] := by
  have e := len_end h
  have hv : val (cur ++ [c]) = x * b + m := by
    rw [val_append, h.1, ← e]; simp [val, Nat.mul_comm]
  rw [← hv]
  refine eq_digs (fun d hd => ?_) fun _ => ?_
  · rcases List.mem_append.1 hd with h3 | h3
    · exact h.2.1 d h3
    · simp at h3; subst h3; exact h.2.2.1
  · rw [hv, List.length_append, List.length_singleton, Nat.add_sub_cancel, h.1, ← e]
    have : 1 * 4294967296 ^ (digs x).length ≤ c * 4294967296 ^ (digs x).length := Nat.mul_le_mul_right _ (by omega)
    omega
end Nt

/-
  What trim, limb, longer, Same and Cmp compute, for all limbs.
-/
namespace Go.Proofs.YtfiefglagknclaaGreatDoor
open Go.RowKit
set_option maxHeartbeats 400000
set_option maxRecDepth 100000
set_option linter.unusedVariables false

/-- Limbs as values. -/
def U (l : List Nat) : List Value := l.map fun n : Nat => Value.int .u32 (n : Int)
theorem U_get {l : List Nat} {i : Nat} (h : i < l.length) : (U l)[i]'(by simpa [U] using h) = .int .u32 ((l[i] : Nat) : Int) := by simp [U]
theorem U_len (l : List Nat) : (U l).length = l.length := by simp [U]
theorem Lies.limb {w : World} {B : Nat} {A : Option Addr} {l : List Nat} (h : Lies w B A (U l)) {k : Nat} (hk : k < l.length) :
    ∃ b off, A = some ⟨b, off, none⟩ ∧ b < B ∧ w.cell? ⟨b, off + k, none⟩ = some (.int .u32 ((l[k] : Nat) : Int)) := by
  obtain ⟨b, off, hA, hb, hc⟩ := h.at_ (k := k) (by rw [U_len]; exact hk)
  rw [U_get hk] at hc
  exact ⟨b, off, hA, hb, hc⟩

theorem trim_any (A : Option Addr) (c B : Nat) (l : List Nat) (w : World) (hl : Lies w B A (U l)) (ho : Nt.Ok l) (hc : l.length ≤ c) (hm : c ≤ 9223372036854775807) :
    Calls Tryz.prog 83 #[.slice A l.length c] w fun e w' => e = .returned (.slice A (Nt.digs (Nt.val l)).length (Nt.digs (Nt.val l)).length) ∧ w = w' := by
  have HL := Lib.hid hl
  have HO := Lib.hid ho
  clear hl ho
  go_enter Tryz.func83, Tryz.ntmps83
  go_wp2_with fail
  go_loop [3] (fun i => ∃ n : Nat, n ≤ l.length ∧ i = .int .i64 (n : Int) ∧ Hid (∀ j (hj : j < l.length), n ≤ j → l[j] = 0)) (fun i => (intOf i).toNat)
  case atStart => exact ⟨l.length, Nat.le_refl _, rfl, Lib.hid (fun j hj h => absurd hj (by omega))⟩
  case round =>
    obtain ⟨n, hn, rfl, H⟩ := hrel
    by_cases h0 : 0 < n
    · obtain ⟨b, off, rfl, _, hcell⟩ := HL.out.limb (k := n - 1) (by omega)
      generalize hx : l[n - 1]'(by omega) = x at hcell
      have HX := Lib.hid hx
      have hxb : x < 4294967296 := by rw [← hx]; exact Nt.ok_get HO.out (by omega)
      clear hx
      have hpos : (0 : Int) < (n : Int) := by omega
      by_cases hz : x = 0
      · subst hz
        go_wp2_with fail
        go_round
        case rel =>
          refine ⟨n - 1, by omega, by go_num, Lib.hid (fun j hj h => ?_)⟩
          by_cases e : j = n - 1
          · subst e; exact HX.out
          · exact H.out j hj (by omega)
        case measure => simp [intOf]; omega
      · have hne : ((x : Int) == 0) = false := by simp; omega
        have HE : Hid ((Nt.digs (Nt.val l)).length = n) := by
          have := Nt.take_eq_digs HO.out hn H.out (fun _ => by rw [HX.out]; exact hz)
          rw [← this, List.length_take]
          exact Nat.min_eq_left hn
        clear hz
        go_wp2_with fail
        go_ret
        exact ⟨by rw [HE.out]; rfl, rfl⟩
    · obtain rfl : n = 0 := by omega
      have HE : Hid ((Nt.digs (Nt.val l)).length = 0) := Lib.hid (by
        have := Nt.take_eq_digs HO.out hn H.out (fun h => absurd h (by omega))
        rw [← this]; simp)
      go_wp2_with fail
      go_ret
      exact ⟨by rw [HE.out]; rfl, rfl⟩

theorem limb_any (A : Option Addr) (c B : Nat) (l : List Nat) (i : Nat) (w : World) (hl : Lies w B A (U l)) (hc : l.length ≤ c) (hm : c ≤ 9223372036854775807) (hi : i ≤ 9223372036854775807) (ho : Nt.Ok l) :
    Calls Tryz.prog 77 #[.slice A l.length c, .int .i64 (i : Int)] w fun e w' => e = .returned (.int .u64 ((l.getD i 0 : Nat) : Int)) ∧ w = w' := by
  by_cases hlt : i < l.length
  · obtain ⟨b, off, rfl, _, hcell⟩ := hl.limb hlt
    have HG : Hid (l.getD i 0 = l[i]) := Lib.hid (by simp [List.getD_eq_getElem?_getD, hlt])
    have hb := Nt.ok_get ho hlt
    clear hl ho
    generalize l[i] = x at hcell HG hb
    go_enter Tryz.func77, Tryz.ntmps77
    go_wp2_with fail
    go_ret
    exact ⟨ret_int (by rw [HG.out]), rfl⟩
  · have HG : Hid (l.getD i 0 = 0) := Lib.hid (by rw [List.getD_eq_getElem?_getD, List.getElem?_eq_none (by omega)]; rfl)
    clear hl ho
    go_enter Tryz.func77, Tryz.ntmps77
    go_wp2_with fail
    go_ret
    exact ⟨ret_int (by rw [HG.out]; rfl), rfl⟩

theorem longer_any (A A' : Option Addr) (n n' c c' : Nat) (w : World) (hc : n ≤ 9223372036854775807) (hc' : n' ≤ 9223372036854775807) :
    Calls Tryz.prog 76 #[.slice A n c, .slice A' n' c'] w fun e w' => e = .returned (.int .i64 ((max n n' : Nat) : Int)) ∧ w = w' := by
  by_cases h : n' < n
  · have HG : Hid (max n n' = n) := Lib.hid (by omega)
    go_enter Tryz.func76, Tryz.ntmps76
    go_wp2_with fail
    go_ret
    exact ⟨ret_int (by rw [HG.out]), rfl⟩
  · have HG : Hid (max n n' = n') := Lib.hid (by omega)
    go_enter Tryz.func76, Tryz.ntmps76
    go_wp2_with fail
    go_ret
    exact ⟨ret_int (by rw [HG.out]), rfl⟩

theorem same_any (A A' : Option Addr) (c c' B B' : Nat) (xs ys : List Nat) (w : World) (hx : Lies w B A (U xs)) (hy : Lies w B' A' (U ys))
    (hn : xs.length ≤ 9223372036854775807) (hm : ys.length ≤ 9223372036854775807) :
    Calls Tryz.prog 30 #[.slice A xs.length c, .slice A' ys.length c'] w fun e w' => e = .returned (.bool (xs == ys)) ∧ ∃ n, w' = w.drewN n := by
  have HX := Lib.hid hx
  have HY := Lib.hid hy
  clear hx hy
  by_cases hlen : xs.length = ys.length
  · have hb : (((xs.length : Nat) : Int) != ((ys.length : Nat) : Int)) = false := by simp [hlen]
    have HE := Lib.hid hlen
    have hle : xs.length ≤ ys.length := by omega
    clear hlen
    go_enter Tryz.func30, Tryz.ntmps30
    go_wp2_with fail
    go_loopw [5] (fun i wr => ∃ k m : Nat, wr = w.drewN m ∧ k ≤ xs.length ∧ i = .int .i64 k ∧ Hid (xs.take k = ys.take k)) (fun i _ => xs.length - (intOf i).toNat)
    case atStart => exact ⟨0, 0, rfl, Nat.zero_le _, rfl, Lib.hid (by simp)⟩
    case round =>
      obtain ⟨k, m, rfl, hk, rfl, H⟩ := hrel
      by_cases hlt : k < xs.length
      · obtain ⟨b, off, rfl, _, hc⟩ := HX.out.limb hlt
        have hlt' : k < ys.length := by omega
        obtain ⟨b', off', rfl, _, hc'⟩ := HY.out.limb hlt'
        have HS : Hid (xs[k] = ys[k] → xs.take (k + 1) = ys.take (k + 1)) := fun e => by
          rw [List.take_succ_eq_append_getElem hlt, List.take_succ_eq_append_getElem hlt', H.out, e]
        have HN : Hid (xs[k] ≠ ys[k] → (xs == ys) = false) := fun e => by
          rw [beq_eq_false_iff_ne]; rintro rfl; exact e rfl
        generalize xs[k] = x at hc HS HN
        generalize ys[k] = y at hc' HS HN
        cases hxy : ((x : Int) != (y : Int))
        · have HE2 : Hid (x = y) := Lib.hid (by have h := bne_eq_false_iff_eq.1 hxy; omega)
          go_wp2_with fail
          go_quiet (fail)
          go_wp2_with fail
          go_roundw
          case rel => exact ⟨k + 1, _, rfl, by omega, by go_num, Lib.hid (HS.out HE2.out)⟩
          case measure => simp [intOf]; omega
        · have HE2 : Hid (x ≠ y) := Lib.hid (by have h := bne_iff_ne.1 hxy; omega)
          go_wp2_with fail
          go_quiet (fail)
          go_wp2_with fail
          go_ret
          exact ⟨ret_bool (HN.out HE2.out).symm, _, World.drewN_drewN _ _ _⟩
      · go_wp2_with fail
        go_ret
        refine ⟨ret_bool ?_, _, rfl⟩
        have h := H.out
        rw [List.take_of_length_le (by omega), List.take_of_length_le (by have := HE.out; omega)] at h
        rw [h]; simp
  · go_enter Tryz.func30, Tryz.ntmps30
    go_wp2_with fail
    go_ret
    refine ⟨ret_bool ?_, 0, rfl⟩
    symm
    rw [beq_eq_false_iff_ne]; rintro rfl; exact hlen rfl
end Go.Proofs.YtfiefglagknclaaGreatDoor

/-
  What nat.Cmp and scrimref02.Cmp compute: which of two numbers is greater.
-/
namespace Go.Proofs.YtfiefglagknclaaGreatDoor
open Go.RowKit
set_option maxHeartbeats 1000000
set_option maxRecDepth 100000
set_option linter.unusedVariables false

theorem quiet_three (w : World) (a b c : Nat) : ∃ n, ((w.drewN a).drewN b).drewN c = w.drewN n := ⟨a + b + c, by rw [World.drewN_drewN, World.drewN_drewN, Nat.add_assoc]⟩

theorem cmp_any (A A' : Option Addr) (c c' B : Nat) (a b : List Nat) (w : World) (hx : Lies w B A (U a)) (hy : Lies w B A' (U b)) (ha : Nt.Ok a) (hb : Nt.Ok b)
    (hc : a.length ≤ c) (hc' : b.length ≤ c') (hm : c ≤ 9223372036854775807) (hm' : c' ≤ 9223372036854775807) :
    Calls Tryz.prog 86 #[.slice A a.length c, .slice A' b.length c'] w fun e w' => e = .returned (.int .i64 (Nt.cmp (Nt.val a) (Nt.val b))) ∧ ∃ n, w' = w.drewN n := by
  have ha' := Nt.digs_len_le ha
  have hb' := Nt.digs_len_le hb
  have HTA : Hid (a.take (Nt.digs (Nt.val a)).length = Nt.digs (Nt.val a)) := Lib.hid (Nt.take_digs ha)
  have HTB : Hid (b.take (Nt.digs (Nt.val b)).length = Nt.digs (Nt.val b)) := Lib.hid (Nt.take_digs hb)
  have HX : Hid (Lies w B A (U (Nt.digs (Nt.val a)))) := by
    have := hx.take (Nt.digs (Nt.val a)).length
    rw [show (U a).take (Nt.digs (Nt.val a)).length = U (a.take (Nt.digs (Nt.val a)).length) from List.map_take.symm, HTA.out] at this
    exact this
  have HY : Hid (Lies w B A' (U (Nt.digs (Nt.val b)))) := by
    have := hy.take (Nt.digs (Nt.val b)).length
    rw [show (U b).take (Nt.digs (Nt.val b)).length = U (b.take (Nt.digs (Nt.val b)).length) from List.map_take.symm, HTB.out] at this
    exact this
  have hta := trim_any A c B a w hx ha hc hm
  have htb := trim_any A' c' B b w hy hb hc' hm'
  have TA := Lib.hid hta
  have TB := Lib.hid htb
  have HVA := Lib.hid (Nt.val_digs (Nt.val a))
  have HVB := Lib.hid (Nt.val_digs (Nt.val b))
  have HOA := Lib.hid (Nt.ok_digs (Nt.val a))
  have HOB := Lib.hid (Nt.ok_digs (Nt.val b))
  have HLT := Lib.hid (fun h => Nt.digs_len_mono (x := Nt.val a) (y := Nt.val b) h)
  have HGT := Lib.hid (fun h => Nt.digs_len_mono (x := Nt.val b) (y := Nt.val a) h)
  clear hx hy hta htb HTA HTB
  generalize Nt.val a = x at *
  generalize Nt.val b = y at *
  generalize Nt.digs x = da at *
  generalize Nt.digs y = db at *
  by_cases h1 : da.length < db.length
  · have HE := Lib.hid (Nt.cmp_lt (HLT.out h1))
    go_enter Tryz.func86, Tryz.ntmps86
    go_wp2_with fail
    refine TA.out.mono ?_
    rintro e w' ⟨rfl, rfl⟩
    go_wp2_with fail
    refine TB.out.mono ?_
    rintro e w' ⟨rfl, rfl⟩
    go_wp2_with fail
    go_ret
    exact ⟨by rw [HE.out]; rfl, 0, rfl⟩
  · by_cases h2 : db.length < da.length
    · have HE := Lib.hid (Nt.cmp_gt (HGT.out h2))
      go_enter Tryz.func86, Tryz.ntmps86
      go_wp2_with fail
      refine TA.out.mono ?_
      rintro e w' ⟨rfl, rfl⟩
      go_wp2_with fail
      refine TB.out.mono ?_
      rintro e w' ⟨rfl, rfl⟩
      go_wp2_with fail
      go_ret
      exact ⟨by rw [HE.out]; rfl, 0, rfl⟩
    · have hlen : da.length ≤ db.length := by omega
      have hlen' : db.length ≤ da.length := by omega
      go_enter Tryz.func86, Tryz.ntmps86
      go_wp2_with fail
      refine TA.out.mono ?_
      rintro e w' ⟨rfl, rfl⟩
      go_wp2_with fail
      refine TB.out.mono ?_
      rintro e w' ⟨rfl, rfl⟩
      go_wp2_with fail
      go_loopw [5] (fun i wr => ∃ k m : Nat, wr = w.drewN m ∧ k ≤ da.length ∧ i = .int .i64 ((k : Int) - 1) ∧ Hid (da.drop k = db.drop k)) (fun i _ => (intOf i + 1).toNat)
      case atStart => exact ⟨da.length, 0, rfl, Nat.le_refl _, by go_num, Lib.hid (by rw [List.drop_length, List.drop_eq_nil_of_le hlen'])⟩
      case round =>
        obtain ⟨k, m, rfl, hk, rfl, H⟩ := hrel
        rcases k with _ | k
        · have HE : Hid (Nt.cmp x y = 0) := Lib.hid (by
            have h := H.out
            rw [List.drop_zero, List.drop_zero] at h
            rw [← HVA.out, ← HVB.out, h]; exact Nt.cmp_eq _)
          go_wp2_with fail
          go_ret
          exact ⟨by rw [HE.out]; rfl, _, rfl⟩
        · have hlt : k < da.length := by omega
          have hlt' : k < db.length := by omega
          obtain ⟨b1, off1, rfl, _, hc1⟩ := HX.out.limb hlt
          obtain ⟨b2, off2, rfl, _, hc2⟩ := HY.out.limb hlt'
          have P1 : Hid (da[k] < db[k] → Nt.cmp x y = -1) := Lib.hid (fun h => by
            have := Nt.val_lt_of HOA.out hlt hlt' H.out h
            rw [HVA.out, HVB.out] at this
            exact Nt.cmp_lt this)
          have P2 : Hid (db[k] < da[k] → Nt.cmp x y = 1) := Lib.hid (fun h => by
            have := Nt.val_lt_of HOB.out hlt' hlt H.out.symm h
            rw [HVA.out, HVB.out] at this
            exact Nt.cmp_gt this)
          have P3 : Hid (da[k] = db[k] → da.drop k = db.drop k) := Lib.hid (fun h => by
            rw [List.drop_eq_getElem_cons hlt, List.drop_eq_getElem_cons hlt', H.out, h])
          generalize da[k] = d1 at hc1 P1 P2 P3
          generalize db[k] = d2 at hc2 P1 P2 P3
          have hk1 : ((k + 1 : Nat) : Int) - 1 = (k : Int) := by omega
          rw [hk1]
          clear hk1
          rcases Nat.lt_trichotomy d1 d2 with h | h | h
          · have HE := Lib.hid (P1.out h)
            go_wp2_with fail
            go_quiet (fail)
            go_wp2_with fail
            go_ret
            exact ⟨by rw [HE.out]; rfl, _, World.drewN_drewN _ _ _⟩
          · have HE := Lib.hid (P3.out h)
            subst h
            go_wp2_with fail
            go_quiet (fail)
            go_wp2_with fail
            go_quiet (fail)
            go_wp2_with fail
            go_roundw
            case rel => exact ⟨k, _, rfl, by omega, by go_num, Lib.hid HE.out⟩
            case measure => first | (simp [intOf]; done) | (simp [intOf]; omega)
          · have HE := Lib.hid (P2.out h)
            go_wp2_with fail
            go_quiet (fail)
            go_wp2_with fail
            go_quiet (fail)
            go_wp2_with fail
            go_ret
            exact ⟨by rw [HE.out]; rfl, quiet_three _ _ _ _⟩

theorem refCmp_any (A A' : Option Addr) (c c' B : Nat) (a b : List Nat) (w : World) (hx : Lies w B A (U a)) (hy : Lies w B A' (U b)) (ha : Nt.Ok a) (hb : Nt.Ok b)
    (hc : a.length ≤ c) (hc' : b.length ≤ c') (hm : c ≤ 9223372036854775807) (hm' : c' ≤ 9223372036854775807) :
    Calls Tryz.prog 118 #[.slice A a.length c, .slice A' b.length c'] w fun e w' => e = .returned (.int .i64 (Nt.cmp (Nt.val a) (Nt.val b))) ∧ w = w' := by
  obtain ⟨n, hn⟩ : ∃ n, n = max a.length b.length := ⟨_, rfl⟩
  have hna : a.length ≤ n := by omega
  have hnb : b.length ≤ n := by omega
  have hnm : n ≤ 9223372036854775807 := by omega
  have HN := Lib.hid hn
  have LA := Lib.hid (fun i hi => limb_any A c B a i w hx hc hm hi ha)
  have LB := Lib.hid (fun i hi => limb_any A' c' B b i w hy hc' hm' hi hb)
  have PA := Lib.hid (Nt.pad_len hna)
  have PB := Lib.hid (Nt.pad_len hnb)
  have GA := Lib.hid (fun i (hi : i < (Nt.pad a n).length) => Nt.pad_get hi)
  have GB := Lib.hid (fun i (hi : i < (Nt.pad b n).length) => Nt.pad_get hi)
  have HVA := Lib.hid (Nt.val_pad a n)
  have HVB := Lib.hid (Nt.val_pad b n)
  have HOA := Lib.hid (Nt.ok_pad ha n)
  have HOB := Lib.hid (Nt.ok_pad hb n)
  clear hx hy ha hb hn
  generalize Nt.val a = x at *
  generalize Nt.val b = y at *
  generalize Nt.pad a n = da at *
  generalize Nt.pad b n = db at *
  go_enter Tryz.func118, Tryz.ntmps118
  go_wp2_with fail
  refine (longer_any A A' a.length b.length c c' _ (by omega) (by omega)).mono ?_
  rintro e w' ⟨rfl, rfl⟩
  rw [← HN.out]
  go_wp2_with fail
  go_loop [5] (fun i => ∃ k : Nat, k ≤ n ∧ i = .int .i64 ((k : Int) - 1) ∧ Hid (da.drop k = db.drop k)) (fun i => (intOf i + 1).toNat)
  case atStart => exact ⟨n, Nat.le_refl _, by go_num, Lib.hid (by rw [List.drop_eq_nil_of_le (by rw [PA.out]; omega), List.drop_eq_nil_of_le (by rw [PB.out]; omega)])⟩
  case round =>
    obtain ⟨k, hk, rfl, H⟩ := hrel
    rcases k with _ | k
    · have HE : Hid (Nt.cmp x y = 0) := Lib.hid (by
        have h := H.out
        rw [List.drop_zero, List.drop_zero] at h
        rw [← HVA.out, ← HVB.out, h]; exact Nt.cmp_eq _)
      go_wp2_with fail
      go_ret
      exact ⟨by rw [HE.out]; rfl, rfl⟩
    · have hlt : k < da.length := by rw [PA.out]; omega
      have hlt' : k < db.length := by rw [PB.out]; omega
      have P1 : Hid (a.getD k 0 < b.getD k 0 → Nt.cmp x y = -1) := Lib.hid (fun h => by
        rw [← GA.out k hlt, ← GB.out k hlt'] at h
        have := Nt.val_lt_of HOA.out hlt hlt' H.out h
        rw [HVA.out, HVB.out] at this
        exact Nt.cmp_lt this)
      have P2 : Hid (b.getD k 0 < a.getD k 0 → Nt.cmp x y = 1) := Lib.hid (fun h => by
        rw [← GA.out k hlt, ← GB.out k hlt'] at h
        have := Nt.val_lt_of HOB.out hlt' hlt H.out.symm h
        rw [HVA.out, HVB.out] at this
        exact Nt.cmp_gt this)
      have P3 : Hid (a.getD k 0 = b.getD k 0 → da.drop k = db.drop k) := Lib.hid (fun h => by
        rw [← GA.out k hlt, ← GB.out k hlt'] at h
        rw [List.drop_eq_getElem_cons hlt, List.drop_eq_getElem_cons hlt', H.out, h])
      have CA := Lib.hid (LA.out k (by omega))
      have CB := Lib.hid (LB.out k (by omega))
      clear hlt hlt'
      generalize a.getD k 0 = d1 at P1 P2 P3 CA
      generalize b.getD k 0 = d2 at P1 P2 P3 CB
      have hk1 : ((k + 1 : Nat) : Int) - 1 = (k : Int) := by omega
      rw [hk1]
      clear hk1
      rcases Nat.lt_trichotomy d1 d2 with h | h | h
      · have HE := Lib.hid (P1.out h)
        go_wp2_with fail
        refine CA.out.mono ?_
        rintro e w' ⟨rfl, rfl⟩
        go_wp2_with fail
        refine CB.out.mono ?_
        rintro e w' ⟨rfl, rfl⟩
        go_wp2_with fail
        go_ret
        exact ⟨by rw [HE.out]; rfl, rfl⟩
      · have HE := Lib.hid (P3.out h)
        subst h
        go_wp2_with fail
        refine CA.out.mono ?_
        rintro e w' ⟨rfl, rfl⟩
        go_wp2_with fail
        refine CB.out.mono ?_
        rintro e w' ⟨rfl, rfl⟩
        go_wp2_with fail
        refine CA.out.mono ?_
        rintro e w' ⟨rfl, rfl⟩
        go_wp2_with fail
        refine CB.out.mono ?_
        rintro e w' ⟨rfl, rfl⟩
        go_wp2_with fail
        go_round
        case rel => exact ⟨k, by omega, by go_num, Lib.hid HE.out⟩
        case measure => first | (simp [intOf]; done) | (simp [intOf]; omega)
      · have HE := Lib.hid (P2.out h)
        go_wp2_with fail
        refine CA.out.mono ?_
        rintro e w' ⟨rfl, rfl⟩
        go_wp2_with fail
        refine CB.out.mono ?_
        rintro e w' ⟨rfl, rfl⟩
        go_wp2_with fail
        refine CA.out.mono ?_
        rintro e w' ⟨rfl, rfl⟩
        go_wp2_with fail
        refine CB.out.mono ?_
        rintro e w' ⟨rfl, rfl⟩
        go_wp2_with fail
        go_ret
        exact ⟨by rw [HE.out]; rfl, rfl⟩
end Go.Proofs.YtfiefglagknclaaGreatDoor
