/-
  Texts of this proof, joined (by wip/bin/bundle.py): RTok5, RTok10, TokSame, TokCuts.
-/
import Derived.Test.YtfiefglagknclaaGreatDoorM12
import Derived.Deep.CutRange
/-
  scrimref06.Decode: the characters of bytes, by guess and proof. (Printed by wip/bin/gen_rtok5.py of wip/tpl/rtok5.main.)
-/
namespace Go.Proofs.YtfiefglagknclaaGreatDoor
open Go.RowKit
set_option maxHeartbeats 4000000
set_option maxRecDepth 100000
set_option linter.unusedVariables false

def frameDecN (s : ByteArray) (pv cv nv : Value) (U : Nat → Value) (xs : Nat → Value) : Act := { tmps := #[.string s, undef, U 2, U 3, U 4, pv, cv, nv, U 8, U 9, U 10, U 11, U 12, U 13, U 14, U 15, U 16, U 17, xs 0, xs 1, xs 2, xs 3, xs 4, xs 5, xs 6, xs 7, xs 8, xs 9, xs 10, xs 11, xs 12, xs 13, xs 14, xs 15, xs 16, xs 17, xs 18, U 37, U 38, U 39, U 40, U 41, U 42, U 43, U 44, U 45, undef], defers := [] }
def predDecN (s : ByteArray) (pos c n : Nat) (L : List UInt8) (r : Bool) : Nat → World → Value → Prop
  | 0, w, v => v = .int .i64 (n : Int)
  | 1, w, v => v = .bool true
  | 2, w, v => v = .bool true
  | 3, w, v => v = undef
  | 4, w, v => v = undef
  | 5, w, v => v = undef
  | 6, w, v => v = .bool true
  | 7, w, v => v = .bool true
  | 8, w, v => v = undef
  | 9, w, v => v = undef
  | 10, w, v => v = undef
  | 11, w, v => v = undef
  | 12, w, v => v = undef
  | 13, w, v => v = undef
  | 14, w, v => v = undef
  | 15, w, v => v = undef
  | 16, w, v => v = undef
  | 17, w, v => v = undef
  | _, w, v => v = .bool true
def frameDecM (s : ByteArray) (pv cv nv : Value) (U : Nat → Value) (xs : Nat → Value) : Act := { tmps := #[.string s, undef, U 2, U 3, U 4, pv, cv, nv, U 8, U 9, U 10, U 11, U 12, U 13, U 14, U 15, U 16, U 17, xs 0, xs 1, xs 2, xs 3, xs 4, xs 5, xs 6, xs 7, xs 8, xs 9, xs 10, xs 11, xs 12, xs 13, xs 14, xs 15, xs 16, xs 17, xs 18, U 37, U 38, U 39, U 40, U 41, U 42, U 43, U 44, U 45, undef], defers := [] }
def predDecM (s : ByteArray) (pos c n : Nat) (L : List UInt8) (r : Bool) : Nat → World → Value → Prop
  | 0, w, v => v = .int .i64 (n : Int)
  | 1, w, v => v = .bool false
  | 2, w, v => v = .bool false
  | 3, w, v => v = .int .i64 (c : Int)
  | 4, w, v => v = .bool false
  | 5, w, v => v = .bool true
  | 6, w, v => v = .bool true
  | 7, w, v => v = .bool true
  | 8, w, v => v = undef
  | 9, w, v => v = undef
  | 10, w, v => v = undef
  | 11, w, v => v = undef
  | 12, w, v => v = undef
  | 13, w, v => v = undef
  | 14, w, v => v = undef
  | 15, w, v => v = undef
  | 16, w, v => v = undef
  | 17, w, v => v = undef
  | _, w, v => v = .bool true
def frameDecY (s : ByteArray) (pv cv nv : Value) (U : Nat → Value) (xs : Nat → Value) : Act := { tmps := #[.string s, undef, U 2, U 3, U 4, pv, cv, nv, U 8, U 9, U 10, U 11, U 12, U 13, U 14, U 15, U 16, U 17, xs 0, xs 1, xs 2, xs 3, xs 4, xs 5, xs 6, xs 7, xs 8, xs 9, xs 10, xs 11, xs 12, xs 13, xs 14, xs 15, xs 16, xs 17, xs 18, U 37, U 38, U 39, U 40, U 41, U 42, U 43, U 44, U 45, undef], defers := [] }
def predDecY (s : ByteArray) (pos c n : Nat) (L : List UInt8) (r : Bool) : Nat → World → Value → Prop
  | 0, w, v => v = .int .i64 (n : Int)
  | 1, w, v => v = .bool false
  | 2, w, v => v = .bool false
  | 3, w, v => v = .int .i64 (c : Int)
  | 4, w, v => v = .bool true
  | 5, w, v => v = .bool false
  | 6, w, v => v = .bool false
  | 7, w, v => v = .bool false
  | 8, w, v => v = .int .i64 (c : Int)
  | 9, w, v => w.ownsRow 0 5 1 v L.length (Lib.byteCells L)
  | 10, w, v => v = .string ⟨L.toArray⟩
  | 11, w, v => v = .string s
  | 12, w, v => v = .int .i64 (pos : Int)
  | 13, w, v => v = .int .i64 (pos : Int)
  | 14, w, v => v = .int .i64 (n : Int)
  | 15, w, v => v = .int .i64 ((pos : Int) + (n : Int))
  | 16, w, v => v = .string (s.extract pos (pos + n))
  | 17, w, v => v = .bool r
  | _, w, v => v = .bool r
theorem one_byte {c : Nat} (h : c ≤ 1114111) : ∀ x ∈ Gl.one c, x < 256 := by
  unfold Gl.one
  repeat' split
  all_goals
    intro x hx
    simp only [List.mem_cons, List.not_mem_nil, or_false] at hx
    omega
theorem cut_bytes {s : ByteArray} {i n : Nat} (h : i + n ≤ s.size) : (s.extract i (i + n)).toList = (List.range n).map (fun k => s.get! (i + k)) := by
  rw [ByteArray.toList_eq]
  have e : (s.extract i (i + n)).data.toList = (s.data.toList.drop i).take n := by
    rw [ByteArray.data_extract, Array.toList_extract, List.extract_eq_take_drop, Nat.add_sub_cancel_left]
  rw [e]
  have hl : s.data.toList.length = s.size := Array.length_toList
  apply List.ext_getElem
  · simp; omega
  · intro k h1 h2
    have hk : k < n := by simpa using h2
    rw [List.getElem_take, List.getElem_drop, List.getElem_map, List.getElem_range, Gl.get_at (by omega)]
    rfl
theorem same_bytes {s : ByteArray} {i n c : Nat} (h : i + n ≤ s.size) (hc : c ≤ 1114111) : Tk.enc1 (c : Int) = (s.extract i (i + n)).toList ↔ Gl.one c = (List.range n).map (fun k => Gl.by_ s (i + k)) := by
  rw [cut_bytes h]
  have e1 : Tk.enc1 (c : Int) = (Gl.one c).map UInt8.ofNat := rfl
  have e2 : (List.range n).map (fun k => Gl.by_ s (i + k)) = ((List.range n).map (fun k => s.get! (i + k))).map UInt8.toNat := by rw [List.map_map]; rfl
  rw [e1, e2]
  constructor
  · intro h
    rw [← h, List.map_map]
    have hb := one_byte hc
    have : ∀ (l : List Nat), (∀ x ∈ l, x < 256) → l = l.map (UInt8.toNat ∘ UInt8.ofNat) := by
      intro l hl
      induction l with
      | nil => rfl
      | cons a r ih =>
        rw [List.map_cons, ← ih (fun x hx => hl x (List.mem_cons_of_mem _ hx))]
        congr 1
        have := hl a (List.mem_cons_self ..)
        simp [UInt8.toNat_ofNat']
        omega
    exact this _ hb
  · intro h
    rw [h, List.map_map]
    have : ∀ (l : List UInt8), l.map (UInt8.ofNat ∘ UInt8.toNat) = l := by
      intro l
      induction l with
      | nil => rfl
      | cons a r ih => rw [List.map_cons, ih]; simp
    exact this _
theorem guess_ok {s : ByteArray} {i c n : Nat} (hi : i < s.size) (h : Gl.guess s i = some (c, n)) : 1 ≤ n ∧ i + n ≤ s.size := by
  unfold Gl.guess at h
  split at h
  · cases h
  · rename_i c0 n0 hf
    have hb := first_bd (Gl.by_lt s i) hf
    split at h
    · cases h
    · rw [Option.map_eq_some_iff] at h
      obtain ⟨c1, _, h⟩ := h
      cases h
      omega
theorem read_guess_none {s : ByteArray} {i : Nat} (hi : i < s.size) (h : Gl.guess s i = none) : Gl.read s i = none := by
  rw [← Gl.refRead_eq s i hi]; unfold Gl.refRead; rw [h]
theorem read_guess_some {s : ByteArray} {i c n : Nat} (hi : i < s.size) (h : Gl.guess s i = some (c, n)) : Gl.read s i = if Gl.may (c : Int) = true ∧ Gl.one c = (List.range n).map (fun k => Gl.by_ s (i + k)) then some (c, n) else none := by
  rw [← Gl.refRead_eq s i hi]; unfold Gl.refRead; rw [h]
theorem refDecode_any (s : ByteArray) (w : World) (hs : s.size ≤ 100000) :
    Calls Tryz.prog 35 #[.string s] w (ChOut w (Gl.ints (Gl.dec s 0).1) (Gl.badI (Gl.dec s 0).2)) := by
  obtain ⟨i0, hi, hz0, hz1, hz2⟩ := info_parts i64_info
  have GU := Lib.hid (fun (i : Nat) (h : i < s.size) wx => refGuess_any s i wx h hs)
  have MY := Lib.hid (fun (x : Int) wx => refMay_any x wx)
  have ON := Lib.hid (fun (m : Nat) (h : m ≤ 1114111) wx => refOne_any m wx h)
  go_enter Tryz.func35, Tryz.ntmps35
  go_wp2_with fail
  go_loopw [4, 5] (fun ov pv wr => ∃ (pos : Nat) (done : List Nat), pv = .int .i64 (pos : Int) ∧ pos ≤ s.size ∧ Hid (wr.ownsRow w.heap.size 3 1 ov done.length (I64 (Gl.ints done))) ∧ Hid (Below w.heap.size w wr) ∧ Hid (Gl.DecAt s pos done)) (fun _ pv _ => s.size - (intOf pv).toNat)
  case atStart => exact ⟨0, [], rfl, Nat.zero_le _, Lib.hid (World.ownsRow_nil _ _ _ _), Lib.hid (Below.refl _ _), Lib.hid (Gl.DecAt.start s)⟩
  case round =>
    obtain ⟨pos, done, rfl, hps, HOW, HB, H⟩ := hrel
    have hdl := H.out.len
    by_cases hp : pos < s.size
    · have G1 := Lib.hid (GU.out pos hp wr)
      obtain ⟨G, hG⟩ : ∃ G, G = Gl.guess s pos := ⟨_, rfl⟩
      have HRN : Hid (G = none → Gl.read s pos = none) := Lib.hid (fun h => read_guess_none hp (by rw [← hG]; exact h))
      have HRS : Hid (∀ c n, G = some (c, n) → Gl.read s pos = if Gl.may (c : Int) = true ∧ Gl.one c = (List.range n).map (fun k => Gl.by_ s (pos + k)) then some (c, n) else none) := Lib.hid (fun c n h => read_guess_some hp (by rw [← hG]; exact h))
      have HGK : Hid (∀ c n, G = some (c, n) → 1 ≤ n ∧ pos + n ≤ s.size) := Lib.hid (fun c n h => guess_ok hp (by rw [← hG]; exact h))
      rw [← hG] at G1
      clear hG
      obtain ⟨c, n, hcn⟩ : ∃ c n, guessed G = (c, n) := ⟨_, _, rfl⟩
      rw [hcn] at G1
      go_wp2_with fail
      refine G1.out.mono ?_
      rintro e w' ⟨rfl, rfl⟩
      go_upto_region 5 with fail
      obtain ⟨R, hR⟩ : ∃ R, R = (Gl.read s pos).isNone := ⟨_, rfl⟩
      go_cut [36] from 18 to 45 (fun x36 wx => x36 = .bool R ∧ Hid (Below wr.heap.size wr wx))
      case first =>
        cases G with
        | none =>
          have HN0 : Hid (((n : Int) == 0) = true) := Lib.hid (by have e : 0 = n := congrArg Prod.snd hcn; rw [← e]; rfl)
          have hRt : R = true := by rw [hR, HRN.out rfl]; rfl
          have L : List UInt8 := []
          have r : Bool := false
          clear hR HRN HRS HGK hcn
          refine wp_region_pred (frameDecN s (.int .i64 (pos : Int)) (.int .i64 (c : Int)) (.int .i64 (n : Int)) (fun k => [undef, undef, u2, u3, u4, undef, undef, undef, .int .i64 (pos : Int), .string s, .int .i64 (s.size : Int), .bool true, .tuple #[.int .i64 (c : Int), .int .i64 (n : Int)], .string s, .int .i64 (pos : Int), .tuple #[.int .i64 (c : Int), .int .i64 (n : Int)], .int .i64 (c : Int), .int .i64 (n : Int), u18, u19, u20, u21, u22, u23, u24, u25, u26, u27, u28, u29, u30, u31, u32, u33, u34, u35, u36, u37, u38, u39, u40, u41, u42, u43, u44, u45].getD k undef)) wr (predDecN s pos c n L r) (by kernel_rfl) ?_ (by kernel_rfl) (fun k => [u18, u19, u20, u21, u22, u23, u24, u25, u26, u27, u28, u29, u30, u31, u32, u33, u34, u35, u36].getD k undef) rfl (Below.refl _ _) ?_ ?_
          · intro i w1 w2 v hv hb
            match i with
            | 0 => exact hv
            | 1 => exact hv
            | 2 => exact hv
            | 3 => exact hv
            | 4 => exact hv
            | 5 => exact hv
            | 6 => exact hv
            | 7 => exact hv
            | 8 => exact hv
            | 9 => exact hv
            | 10 => exact hv
            | 11 => exact hv
            | 12 => exact hv
            | 13 => exact hv
            | 14 => exact hv
            | 15 => exact hv
            | 16 => exact hv
            | 17 => exact hv
            | i + 18 => exact hv
          · intro i xs w1 hi hb hdep
            have hi6 : i < 19 := hi
            clear hi
            rcases (show i = 0 ∨ i = 1 ∨ i = 2 ∨ i = 3 ∨ i = 4 ∨ i = 5 ∨ i = 6 ∨ i = 7 ∨ i = 8 ∨ i = 9 ∨ i = 10 ∨ i = 11 ∨ i = 12 ∨ i = 13 ∨ i = 14 ∨ i = 15 ∨ i = 16 ∨ i = 17 ∨ i = 18 by omega) with rfl | rfl | rfl | rfl | rfl | rfl | rfl | rfl | rfl | rfl | rfl | rfl | rfl | rfl | rfl | rfl | rfl | rfl | rfl
            · refine wpOp_at rfl rfl ?_
              unfold frameDecN Oper.wp
              go_simp
              exact ⟨_, by simp only [frameDecN, upd]; simp [Act.put], rfl, Below.refl _ _⟩
            · have h0 : xs 0 = .int .i64 (n : Int) := hdep 0 (by kernel_rfl)
              refine wpOp_at rfl rfl ?_
              unfold frameDecN Oper.wp
              simp only [h0]
              go_simp
              exact ⟨_, by simp only [frameDecN, upd]; simp [Act.put, h0], (congrArg Value.bool HN0.out), Below.refl _ _⟩
            · have h1 : xs 1 = .bool true := hdep 1 (by kernel_rfl)
              refine wpOp_at rfl rfl ?_
              unfold frameDecN Oper.wp
              simp only [h1]
              go_simp
              exact ⟨_, by simp only [frameDecN, upd]; simp [Act.put, h1], rfl, Below.refl _ _⟩
            · have h2 : xs 2 = .bool true := hdep 2 (by kernel_rfl)
              refine wpOp_off rfl (by unfold frameDecN; simp [Region.wanted, yielded, h2]) ?_
              exact ⟨_, by simp only [frameDecN, upd]; simp [Act.put], rfl, Below.refl _ _⟩
            · have h2 : xs 2 = .bool true := hdep 2 (by kernel_rfl)
              refine wpOp_off rfl (by unfold frameDecN; simp [Region.wanted, yielded, h2]) ?_
              exact ⟨_, by simp only [frameDecN, upd]; simp [Act.put], rfl, Below.refl _ _⟩
            · have h2 : xs 2 = .bool true := hdep 2 (by kernel_rfl)
              refine wpOp_off rfl (by unfold frameDecN; simp [Region.wanted, yielded, h2]) ?_
              exact ⟨_, by simp only [frameDecN, upd]; simp [Act.put], rfl, Below.refl _ _⟩
            · have h2 : xs 2 = .bool true := hdep 2 (by kernel_rfl)
              have h5 : xs 5 = undef := hdep 5 (by kernel_rfl)
              refine wpOp_at rfl rfl ?_
              unfold frameDecN Oper.wp
              simp only [h2, h5]
              go_simp
              exact ⟨_, by simp only [frameDecN, upd]; simp [Act.put, h2, h5], rfl, Below.refl _ _⟩
            · have h6 : xs 6 = .bool true := hdep 6 (by kernel_rfl)
              refine wpOp_at rfl rfl ?_
              unfold frameDecN Oper.wp
              simp only [h6]
              go_simp
              exact ⟨_, by simp only [frameDecN, upd]; simp [Act.put, h6], rfl, Below.refl _ _⟩
            · have h7 : xs 7 = .bool true := hdep 7 (by kernel_rfl)
              refine wpOp_off rfl (by unfold frameDecN; simp [Region.wanted, yielded, h7]) ?_
              exact ⟨_, by simp only [frameDecN, upd]; simp [Act.put], rfl, Below.refl _ _⟩
            · have h7 : xs 7 = .bool true := hdep 7 (by kernel_rfl)
              refine wpOp_off rfl (by unfold frameDecN; simp [Region.wanted, yielded, h7]) ?_
              exact ⟨_, by simp only [frameDecN, upd]; simp [Act.put], rfl, Below.refl _ _⟩
            · have h7 : xs 7 = .bool true := hdep 7 (by kernel_rfl)
              refine wpOp_off rfl (by unfold frameDecN; simp [Region.wanted, yielded, h7]) ?_
              exact ⟨_, by simp only [frameDecN, upd]; simp [Act.put], rfl, Below.refl _ _⟩
            · have h7 : xs 7 = .bool true := hdep 7 (by kernel_rfl)
              refine wpOp_off rfl (by unfold frameDecN; simp [Region.wanted, yielded, h7]) ?_
              exact ⟨_, by simp only [frameDecN, upd]; simp [Act.put], rfl, Below.refl _ _⟩
            · have h7 : xs 7 = .bool true := hdep 7 (by kernel_rfl)
              refine wpOp_off rfl (by unfold frameDecN; simp [Region.wanted, yielded, h7]) ?_
              exact ⟨_, by simp only [frameDecN, upd]; simp [Act.put], rfl, Below.refl _ _⟩
            · have h7 : xs 7 = .bool true := hdep 7 (by kernel_rfl)
              refine wpOp_off rfl (by unfold frameDecN; simp [Region.wanted, yielded, h7]) ?_
              exact ⟨_, by simp only [frameDecN, upd]; simp [Act.put], rfl, Below.refl _ _⟩
            · have h7 : xs 7 = .bool true := hdep 7 (by kernel_rfl)
              refine wpOp_off rfl (by unfold frameDecN; simp [Region.wanted, yielded, h7]) ?_
              exact ⟨_, by simp only [frameDecN, upd]; simp [Act.put], rfl, Below.refl _ _⟩
            · have h7 : xs 7 = .bool true := hdep 7 (by kernel_rfl)
              refine wpOp_off rfl (by unfold frameDecN; simp [Region.wanted, yielded, h7]) ?_
              exact ⟨_, by simp only [frameDecN, upd]; simp [Act.put], rfl, Below.refl _ _⟩
            · have h7 : xs 7 = .bool true := hdep 7 (by kernel_rfl)
              refine wpOp_off rfl (by unfold frameDecN; simp [Region.wanted, yielded, h7]) ?_
              exact ⟨_, by simp only [frameDecN, upd]; simp [Act.put], rfl, Below.refl _ _⟩
            · have h7 : xs 7 = .bool true := hdep 7 (by kernel_rfl)
              refine wpOp_off rfl (by unfold frameDecN; simp [Region.wanted, yielded, h7]) ?_
              exact ⟨_, by simp only [frameDecN, upd]; simp [Act.put], rfl, Below.refl _ _⟩
            · have h7 : xs 7 = .bool true := hdep 7 (by kernel_rfl)
              have h17 : xs 17 = undef := hdep 17 (by kernel_rfl)
              refine wpOp_at rfl rfl ?_
              unfold frameDecN Oper.wp
              simp only [h7, h17]
              go_simp
              exact ⟨_, by simp only [frameDecN, upd]; simp [Act.put, h7, h17], rfl, Below.refl _ _⟩
          · intro xs w1 hb hx
            have h18 : xs 18 = .bool true := hx 18 (by decide)
            go_wp2_with fail
            go_meet
            exact ⟨by rw [hRt]; exact h18, Lib.hid hb⟩
        | some p =>
          obtain ⟨c', n'⟩ := p
          cases hcn
          have hgk := HGK.out c n rfl
          have HIN : Hid ((0 : Int) ≤ (pos : Int) + (n : Int) ∧ (pos : Int) + (n : Int) ≤ (s.size : Int) ∧ (pos : Int) ≤ (pos : Int) + (n : Int) ∧ ((pos : Int) + (n : Int)).toNat = pos + n) := Lib.hid (by omega)
          have HN0 : Hid (((n : Int) == 0) = false) := Lib.hid (beq_eq_false_iff_ne.2 (by omega))
          have hRS := HRS.out c n rfl
          by_cases hm : Gl.may (c : Int) = true
          · have hcm : c ≤ 1114111 := by unfold Gl.may at hm; simp at hm; omega
            have MYC := Lib.hid (fun wx => MY.out (c : Int) wx)
            rw [hm] at MYC
            have ONC := Lib.hid (fun wx => ON.out c hcm wx)
            obtain ⟨L, hL⟩ : ∃ L, L = Tk.enc1 (c : Int) := ⟨_, rfl⟩
            rw [← hL] at ONC
            obtain ⟨r, hr⟩ : ∃ r, r = decide (¬ (Gl.one c = (List.range n).map (fun k => Gl.by_ s (pos + k)))) := ⟨_, rfl⟩
            have hRt : R = r := by
              rw [hR, hRS, hr]
              by_cases h : Gl.one c = (List.range n).map (fun k => Gl.by_ s (pos + k))
              · rw [if_pos ⟨hm, h⟩, decide_eq_false (by simp [h])]; rfl
              · rw [if_neg (fun h' => h h'.2), decide_eq_true h]; rfl
            have HEQ : Hid ((!(L == (s.extract pos (pos + n)).toList)) = r) := Lib.hid (by
              have hsb := same_bytes (s := s) (i := pos) (n := n) (c := c) hgk.2 hcm
              rw [← hL] at hsb
              rw [hr]
              by_cases h : Gl.one c = (List.range n).map (fun k => Gl.by_ s (pos + k))
              · rw [decide_eq_false (by simp [h]), ← hsb.2 h]; simp
              · rw [decide_eq_true h, beq_eq_false_iff_ne.2 (fun e => h (hsb.1 e))]; rfl)
            have hww : IntKind.i64.wrap ((pos : Int) + (n : Int)) = (pos : Int) + (n : Int) := IntWalk.i64_in _ (by omega)
            clear hR HRN HRS HGK hRS hm hcm hL hr
            refine wp_region_pred (frameDecY s (.int .i64 (pos : Int)) (.int .i64 (c : Int)) (.int .i64 (n : Int)) (fun k => [undef, undef, u2, u3, u4, undef, undef, undef, .int .i64 (pos : Int), .string s, .int .i64 (s.size : Int), .bool true, .tuple #[.int .i64 (c : Int), .int .i64 (n : Int)], .string s, .int .i64 (pos : Int), .tuple #[.int .i64 (c : Int), .int .i64 (n : Int)], .int .i64 (c : Int), .int .i64 (n : Int), u18, u19, u20, u21, u22, u23, u24, u25, u26, u27, u28, u29, u30, u31, u32, u33, u34, u35, u36, u37, u38, u39, u40, u41, u42, u43, u44, u45].getD k undef)) wr (predDecY s pos c n L r) (by kernel_rfl) ?_ (by kernel_rfl) (fun k => [u18, u19, u20, u21, u22, u23, u24, u25, u26, u27, u28, u29, u30, u31, u32, u33, u34, u35, u36].getD k undef) rfl (Below.refl _ _) ?_ ?_
            · intro i w1 w2 v hv hb
              match i with
              | 0 => exact hv
              | 1 => exact hv
              | 2 => exact hv
              | 3 => exact hv
              | 4 => exact hv
              | 5 => exact hv
              | 6 => exact hv
              | 7 => exact hv
              | 8 => exact hv
              | 9 => exact own_below3 hv hb
              | 10 => exact hv
              | 11 => exact hv
              | 12 => exact hv
              | 13 => exact hv
              | 14 => exact hv
              | 15 => exact hv
              | 16 => exact hv
              | 17 => exact hv
              | i + 18 => exact hv
            · intro i xs w1 hi hb hdep
              have hi6 : i < 19 := hi
              clear hi
              rcases (show i = 0 ∨ i = 1 ∨ i = 2 ∨ i = 3 ∨ i = 4 ∨ i = 5 ∨ i = 6 ∨ i = 7 ∨ i = 8 ∨ i = 9 ∨ i = 10 ∨ i = 11 ∨ i = 12 ∨ i = 13 ∨ i = 14 ∨ i = 15 ∨ i = 16 ∨ i = 17 ∨ i = 18 by omega) with rfl | rfl | rfl | rfl | rfl | rfl | rfl | rfl | rfl | rfl | rfl | rfl | rfl | rfl | rfl | rfl | rfl | rfl | rfl
              · refine wpOp_at rfl rfl ?_
                unfold frameDecY Oper.wp
                go_simp
                exact ⟨_, by simp only [frameDecY, upd]; simp [Act.put], rfl, Below.refl _ _⟩
              · have h0 : xs 0 = .int .i64 (n : Int) := hdep 0 (by kernel_rfl)
                refine wpOp_at rfl rfl ?_
                unfold frameDecY Oper.wp
                simp only [h0]
                go_simp
                exact ⟨_, by simp only [frameDecY, upd]; simp [Act.put, h0], (congrArg Value.bool HN0.out), Below.refl _ _⟩
              · have h1 : xs 1 = .bool false := hdep 1 (by kernel_rfl)
                refine wpOp_at rfl rfl ?_
                unfold frameDecY Oper.wp
                simp only [h1]
                go_simp
                exact ⟨_, by simp only [frameDecY, upd]; simp [Act.put, h1], rfl, Below.refl _ _⟩
              · have h2 : xs 2 = .bool false := hdep 2 (by kernel_rfl)
                refine wpOp_on rfl (by unfold frameDecY; simp [Region.wanted, yielded, h2]) ?_
                unfold frameDecY Oper.wp
                simp only [h2]
                go_simp
                exact ⟨_, by simp only [frameDecY, upd]; simp [Act.put, h2], rfl, Below.refl _ _⟩
              · have h3 : xs 3 = .int .i64 (c : Int) := hdep 3 (by kernel_rfl)
                have h2 : xs 2 = .bool false := hdep 2 (by kernel_rfl)
                refine wpOp_on rfl (by unfold frameDecY; simp [Region.wanted, yielded, h2]) ?_
                unfold frameDecY Oper.wp
                simp only [h3, h2]
                go_simp
                refine (MYC.out _).mono ?_
                rintro e w2 ⟨rfl, rfl⟩
                exact ⟨_, by simp only [frameDecY, upd]; simp [Act.put, h3, h2], rfl, Below.refl _ _⟩
              · have h4 : xs 4 = .bool true := hdep 4 (by kernel_rfl)
                have h2 : xs 2 = .bool false := hdep 2 (by kernel_rfl)
                refine wpOp_on rfl (by unfold frameDecY; simp [Region.wanted, yielded, h2]) ?_
                unfold frameDecY Oper.wp
                simp only [h4, h2]
                go_simp
                exact ⟨_, by simp only [frameDecY, upd]; simp [Act.put, h4, h2], rfl, Below.refl _ _⟩
              · have h2 : xs 2 = .bool false := hdep 2 (by kernel_rfl)
                have h5 : xs 5 = .bool false := hdep 5 (by kernel_rfl)
                refine wpOp_at rfl rfl ?_
                unfold frameDecY Oper.wp
                simp only [h2, h5]
                go_simp
                exact ⟨_, by simp only [frameDecY, upd]; simp [Act.put, h2, h5], rfl, Below.refl _ _⟩
              · have h6 : xs 6 = .bool false := hdep 6 (by kernel_rfl)
                refine wpOp_at rfl rfl ?_
                unfold frameDecY Oper.wp
                simp only [h6]
                go_simp
                exact ⟨_, by simp only [frameDecY, upd]; simp [Act.put, h6], rfl, Below.refl _ _⟩
              · have h7 : xs 7 = .bool false := hdep 7 (by kernel_rfl)
                refine wpOp_on rfl (by unfold frameDecY; simp [Region.wanted, yielded, h7]) ?_
                unfold frameDecY Oper.wp
                simp only [h7]
                go_simp
                exact ⟨_, by simp only [frameDecY, upd]; simp [Act.put, h7], rfl, Below.refl _ _⟩
              · have h8 : xs 8 = .int .i64 (c : Int) := hdep 8 (by kernel_rfl)
                have h7 : xs 7 = .bool false := hdep 7 (by kernel_rfl)
                refine wpOp_on rfl (by unfold frameDecY; simp [Region.wanted, yielded, h7]) ?_
                unfold frameDecY Oper.wp
                simp only [h8, h7]
                go_simp
                refine (ONC.out _).mono ?_
                rintro e w2 ⟨v9, rfl, ho9, hb2⟩
                exact ⟨_, by simp only [frameDecY, upd]; simp [Act.put, h8, h7], (World.ownsRow.mono_ ho9 (Nat.zero_le _)), hb2⟩
              · have r9 : w1.ownsRow 0 5 1 (xs 9) L.length (Lib.byteCells L) := hdep 9 (by kernel_rfl)
                have h7 : xs 7 = .bool false := hdep 7 (by kernel_rfl)
                refine wpOp_on rfl (by unfold frameDecY; simp [Region.wanted, yielded, h7]) ?_
                have hcv := conv_own r9
                unfold frameDecY Oper.wp
                simp only [h7]
                go_simp
                exact ⟨_, by simp only [frameDecY, upd]; simp [Act.put, h7], rfl, Below.refl _ _⟩
              · have h7 : xs 7 = .bool false := hdep 7 (by kernel_rfl)
                refine wpOp_on rfl (by unfold frameDecY; simp [Region.wanted, yielded, h7]) ?_
                unfold frameDecY Oper.wp
                simp only [h7]
                go_simp
                exact ⟨_, by simp only [frameDecY, upd]; simp [Act.put, h7], rfl, Below.refl _ _⟩
              · have h7 : xs 7 = .bool false := hdep 7 (by kernel_rfl)
                refine wpOp_on rfl (by unfold frameDecY; simp [Region.wanted, yielded, h7]) ?_
                unfold frameDecY Oper.wp
                simp only [h7]
                go_simp
                exact ⟨_, by simp only [frameDecY, upd]; simp [Act.put, h7], rfl, Below.refl _ _⟩
              · have h7 : xs 7 = .bool false := hdep 7 (by kernel_rfl)
                refine wpOp_on rfl (by unfold frameDecY; simp [Region.wanted, yielded, h7]) ?_
                unfold frameDecY Oper.wp
                simp only [h7]
                go_simp
                exact ⟨_, by simp only [frameDecY, upd]; simp [Act.put, h7], rfl, Below.refl _ _⟩
              · have h7 : xs 7 = .bool false := hdep 7 (by kernel_rfl)
                refine wpOp_on rfl (by unfold frameDecY; simp [Region.wanted, yielded, h7]) ?_
                unfold frameDecY Oper.wp
                simp only [h7]
                go_simp
                exact ⟨_, by simp only [frameDecY, upd]; simp [Act.put, h7], rfl, Below.refl _ _⟩
              · have h13 : xs 13 = .int .i64 (pos : Int) := hdep 13 (by kernel_rfl)
                have h14 : xs 14 = .int .i64 (n : Int) := hdep 14 (by kernel_rfl)
                have h7 : xs 7 = .bool false := hdep 7 (by kernel_rfl)
                refine wpOp_on rfl (by unfold frameDecY; simp [Region.wanted, yielded, h7]) ?_
                unfold frameDecY Oper.wp
                simp only [h13, h14, h7]
                go_simp
                exact ⟨_, by simp only [frameDecY, upd]; simp [Act.put, h13, h14, h7], rfl, Below.refl _ _⟩
              · have h11 : xs 11 = .string s := hdep 11 (by kernel_rfl)
                have h12 : xs 12 = .int .i64 (pos : Int) := hdep 12 (by kernel_rfl)
                have h15 : xs 15 = .int .i64 ((pos : Int) + (n : Int)) := hdep 15 (by kernel_rfl)
                have h7 : xs 7 = .bool false := hdep 7 (by kernel_rfl)
                refine wpOp_on rfl (by unfold frameDecY; simp [Region.wanted, yielded, h7]) ?_
                obtain ⟨k1, k2, k3, k4⟩ := HIN.out
                unfold frameDecY Oper.wp
                simp only [h11, h12, h15, h7]
                go_simp
                exact ⟨_, by simp only [frameDecY, upd]; simp [Act.put, h11, h12, h15, h7], rfl, Below.refl _ _⟩
              · have h10 : xs 10 = .string ⟨L.toArray⟩ := hdep 10 (by kernel_rfl)
                have h16 : xs 16 = .string (s.extract pos (pos + n)) := hdep 16 (by kernel_rfl)
                have h7 : xs 7 = .bool false := hdep 7 (by kernel_rfl)
                refine wpOp_on rfl (by unfold frameDecY; simp [Region.wanted, yielded, h7]) ?_
                unfold frameDecY Oper.wp
                simp only [h10, h16, h7]
                go_simp
                exact ⟨_, by simp only [frameDecY, upd]; simp [Act.put, h10, h16, h7], (congrArg Value.bool HEQ.out), Below.refl _ _⟩
              · have h7 : xs 7 = .bool false := hdep 7 (by kernel_rfl)
                have h17 : xs 17 = .bool r := hdep 17 (by kernel_rfl)
                refine wpOp_at rfl rfl ?_
                unfold frameDecY Oper.wp
                simp only [h7, h17]
                go_simp
                exact ⟨_, by simp only [frameDecY, upd]; simp [Act.put, h7, h17], rfl, Below.refl _ _⟩
            · intro xs w1 hb hx
              have h18 : xs 18 = .bool r := hx 18 (by decide)
              go_wp2_with fail
              go_meet
              exact ⟨by rw [hRt]; exact h18, Lib.hid hb⟩
          · have hRt : R = true := by rw [hR, hRS, if_neg (fun h => hm h.1)]; rfl
            have MYC := Lib.hid (fun wx => MY.out (c : Int) wx)
            rw [show Gl.may (c : Int) = false by simpa using hm] at MYC
            have L : List UInt8 := []
            have r : Bool := false
            clear hR HRN HRS HGK hRS hm
            refine wp_region_pred (frameDecM s (.int .i64 (pos : Int)) (.int .i64 (c : Int)) (.int .i64 (n : Int)) (fun k => [undef, undef, u2, u3, u4, undef, undef, undef, .int .i64 (pos : Int), .string s, .int .i64 (s.size : Int), .bool true, .tuple #[.int .i64 (c : Int), .int .i64 (n : Int)], .string s, .int .i64 (pos : Int), .tuple #[.int .i64 (c : Int), .int .i64 (n : Int)], .int .i64 (c : Int), .int .i64 (n : Int), u18, u19, u20, u21, u22, u23, u24, u25, u26, u27, u28, u29, u30, u31, u32, u33, u34, u35, u36, u37, u38, u39, u40, u41, u42, u43, u44, u45].getD k undef)) wr (predDecM s pos c n L r) (by kernel_rfl) ?_ (by kernel_rfl) (fun k => [u18, u19, u20, u21, u22, u23, u24, u25, u26, u27, u28, u29, u30, u31, u32, u33, u34, u35, u36].getD k undef) rfl (Below.refl _ _) ?_ ?_
            · intro i w1 w2 v hv hb
              match i with
              | 0 => exact hv
              | 1 => exact hv
              | 2 => exact hv
              | 3 => exact hv
              | 4 => exact hv
              | 5 => exact hv
              | 6 => exact hv
              | 7 => exact hv
              | 8 => exact hv
              | 9 => exact hv
              | 10 => exact hv
              | 11 => exact hv
              | 12 => exact hv
              | 13 => exact hv
              | 14 => exact hv
              | 15 => exact hv
              | 16 => exact hv
              | 17 => exact hv
              | i + 18 => exact hv
            · intro i xs w1 hi hb hdep
              have hi6 : i < 19 := hi
              clear hi
              rcases (show i = 0 ∨ i = 1 ∨ i = 2 ∨ i = 3 ∨ i = 4 ∨ i = 5 ∨ i = 6 ∨ i = 7 ∨ i = 8 ∨ i = 9 ∨ i = 10 ∨ i = 11 ∨ i = 12 ∨ i = 13 ∨ i = 14 ∨ i = 15 ∨ i = 16 ∨ i = 17 ∨ i = 18 by omega) with rfl | rfl | rfl | rfl | rfl | rfl | rfl | rfl | rfl | rfl | rfl | rfl | rfl | rfl | rfl | rfl | rfl | rfl | rfl
              · refine wpOp_at rfl rfl ?_
                unfold frameDecM Oper.wp
                go_simp
                exact ⟨_, by simp only [frameDecM, upd]; simp [Act.put], rfl, Below.refl _ _⟩
              · have h0 : xs 0 = .int .i64 (n : Int) := hdep 0 (by kernel_rfl)
                refine wpOp_at rfl rfl ?_
                unfold frameDecM Oper.wp
                simp only [h0]
                go_simp
                exact ⟨_, by simp only [frameDecM, upd]; simp [Act.put, h0], (congrArg Value.bool HN0.out), Below.refl _ _⟩
              · have h1 : xs 1 = .bool false := hdep 1 (by kernel_rfl)
                refine wpOp_at rfl rfl ?_
                unfold frameDecM Oper.wp
                simp only [h1]
                go_simp
                exact ⟨_, by simp only [frameDecM, upd]; simp [Act.put, h1], rfl, Below.refl _ _⟩
              · have h2 : xs 2 = .bool false := hdep 2 (by kernel_rfl)
                refine wpOp_on rfl (by unfold frameDecM; simp [Region.wanted, yielded, h2]) ?_
                unfold frameDecM Oper.wp
                simp only [h2]
                go_simp
                exact ⟨_, by simp only [frameDecM, upd]; simp [Act.put, h2], rfl, Below.refl _ _⟩
              · have h3 : xs 3 = .int .i64 (c : Int) := hdep 3 (by kernel_rfl)
                have h2 : xs 2 = .bool false := hdep 2 (by kernel_rfl)
                refine wpOp_on rfl (by unfold frameDecM; simp [Region.wanted, yielded, h2]) ?_
                unfold frameDecM Oper.wp
                simp only [h3, h2]
                go_simp
                refine (MYC.out _).mono ?_
                rintro e w2 ⟨rfl, rfl⟩
                exact ⟨_, by simp only [frameDecM, upd]; simp [Act.put, h3, h2], rfl, Below.refl _ _⟩
              · have h4 : xs 4 = .bool false := hdep 4 (by kernel_rfl)
                have h2 : xs 2 = .bool false := hdep 2 (by kernel_rfl)
                refine wpOp_on rfl (by unfold frameDecM; simp [Region.wanted, yielded, h2]) ?_
                unfold frameDecM Oper.wp
                simp only [h4, h2]
                go_simp
                exact ⟨_, by simp only [frameDecM, upd]; simp [Act.put, h4, h2], rfl, Below.refl _ _⟩
              · have h2 : xs 2 = .bool false := hdep 2 (by kernel_rfl)
                have h5 : xs 5 = .bool true := hdep 5 (by kernel_rfl)
                refine wpOp_at rfl rfl ?_
                unfold frameDecM Oper.wp
                simp only [h2, h5]
                go_simp
                exact ⟨_, by simp only [frameDecM, upd]; simp [Act.put, h2, h5], rfl, Below.refl _ _⟩
              · have h6 : xs 6 = .bool true := hdep 6 (by kernel_rfl)
                refine wpOp_at rfl rfl ?_
                unfold frameDecM Oper.wp
                simp only [h6]
                go_simp
                exact ⟨_, by simp only [frameDecM, upd]; simp [Act.put, h6], rfl, Below.refl _ _⟩
              · have h7 : xs 7 = .bool true := hdep 7 (by kernel_rfl)
                refine wpOp_off rfl (by unfold frameDecM; simp [Region.wanted, yielded, h7]) ?_
                exact ⟨_, by simp only [frameDecM, upd]; simp [Act.put], rfl, Below.refl _ _⟩
              · have h7 : xs 7 = .bool true := hdep 7 (by kernel_rfl)
                refine wpOp_off rfl (by unfold frameDecM; simp [Region.wanted, yielded, h7]) ?_
                exact ⟨_, by simp only [frameDecM, upd]; simp [Act.put], rfl, Below.refl _ _⟩
              · have h7 : xs 7 = .bool true := hdep 7 (by kernel_rfl)
                refine wpOp_off rfl (by unfold frameDecM; simp [Region.wanted, yielded, h7]) ?_
                exact ⟨_, by simp only [frameDecM, upd]; simp [Act.put], rfl, Below.refl _ _⟩
              · have h7 : xs 7 = .bool true := hdep 7 (by kernel_rfl)
                refine wpOp_off rfl (by unfold frameDecM; simp [Region.wanted, yielded, h7]) ?_
                exact ⟨_, by simp only [frameDecM, upd]; simp [Act.put], rfl, Below.refl _ _⟩
              · have h7 : xs 7 = .bool true := hdep 7 (by kernel_rfl)
                refine wpOp_off rfl (by unfold frameDecM; simp [Region.wanted, yielded, h7]) ?_
                exact ⟨_, by simp only [frameDecM, upd]; simp [Act.put], rfl, Below.refl _ _⟩
              · have h7 : xs 7 = .bool true := hdep 7 (by kernel_rfl)
                refine wpOp_off rfl (by unfold frameDecM; simp [Region.wanted, yielded, h7]) ?_
                exact ⟨_, by simp only [frameDecM, upd]; simp [Act.put], rfl, Below.refl _ _⟩
              · have h7 : xs 7 = .bool true := hdep 7 (by kernel_rfl)
                refine wpOp_off rfl (by unfold frameDecM; simp [Region.wanted, yielded, h7]) ?_
                exact ⟨_, by simp only [frameDecM, upd]; simp [Act.put], rfl, Below.refl _ _⟩
              · have h7 : xs 7 = .bool true := hdep 7 (by kernel_rfl)
                refine wpOp_off rfl (by unfold frameDecM; simp [Region.wanted, yielded, h7]) ?_
                exact ⟨_, by simp only [frameDecM, upd]; simp [Act.put], rfl, Below.refl _ _⟩
              · have h7 : xs 7 = .bool true := hdep 7 (by kernel_rfl)
                refine wpOp_off rfl (by unfold frameDecM; simp [Region.wanted, yielded, h7]) ?_
                exact ⟨_, by simp only [frameDecM, upd]; simp [Act.put], rfl, Below.refl _ _⟩
              · have h7 : xs 7 = .bool true := hdep 7 (by kernel_rfl)
                refine wpOp_off rfl (by unfold frameDecM; simp [Region.wanted, yielded, h7]) ?_
                exact ⟨_, by simp only [frameDecM, upd]; simp [Act.put], rfl, Below.refl _ _⟩
              · have h7 : xs 7 = .bool true := hdep 7 (by kernel_rfl)
                have h17 : xs 17 = undef := hdep 17 (by kernel_rfl)
                refine wpOp_at rfl rfl ?_
                unfold frameDecM Oper.wp
                simp only [h7, h17]
                go_simp
                exact ⟨_, by simp only [frameDecM, upd]; simp [Act.put, h7, h17], rfl, Below.refl _ _⟩
            · intro xs w1 hb hx
              have h18 : xs 18 = .bool true := hx 18 (by decide)
              go_wp2_with fail
              go_meet
              exact ⟨by rw [hRt]; exact h18, Lib.hid hb⟩
      case rest =>
        obtain ⟨rfl, HB2⟩ := hcut
        have HO2 := Lib.hid (own_below3 HOW.out HB2.out)
        have HBB : Hid (Below w.heap.size w wc) := Lib.hid (HB.out.trans (HB2.out.mono HB.out.size))
        cases hread : Gl.read s pos with
        | none =>
          rw [hread] at hR
          have HD := Lib.hid (H.out.bad hp hread)
          have HNE : Hid (Gl.ints (Gl.dec s 0).1 = Gl.ints done ∧ Gl.badI (Gl.dec s 0).2 = (pos : Int)) := Lib.hid (by rw [HD.out]; exact ⟨rfl, rfl⟩)
          have HL := Lib.hid (IsCh.of_own (w := wc) (base := w.heap.size) (v := u4) (l := Gl.ints done) (by rw [show (Gl.ints done).length = done.length by simp [Gl.ints]]; exact HO2.out))
          subst hR
          clear hread HRN HRS HGK hcn
          go_wp2_with fail
          go_ret2
          exact ⟨_, by rw [HNE.out.2]; rfl, by rw [HNE.out.1]; exact HL.out, HBB.out⟩
        | some p =>
          rw [hread] at hR
          obtain ⟨c', n'⟩ := p
          have HST := Lib.hid (H.out.step hp hread)
          have hrp := Gl.read_pos hread
          have hrl := Gl.read_le hp hread
          have hcc : c' = c ∧ n' = n := by
            cases hG : G with
            | none => rw [HRN.out hG] at hread; cases hread
            | some q =>
              obtain ⟨c2, n2⟩ := q
              have h := HRS.out c2 n2 hG
              rw [hread] at h
              rw [hG] at hcn
              cases hcn
              split at h
              · injection h with h; injection h with h1 h2; exact ⟨h1, h2⟩
              · cases h
          obtain ⟨rfl, rfl⟩ := hcc
          subst hR
          obtain ⟨A2, C2, rfl, hC1, hC2⟩ := own_slice HO2.out
          have hlen : (I64 (Gl.ints done)).length = done.length := by simp [I64, Gl.ints]
          have HAP : Hid (I64 (Gl.ints (done ++ [c'])) = I64 (Gl.ints done) ++ [.int .i64 (c' : Int)]) := Lib.hid (by unfold Gl.ints; rw [List.map_append, List.map_singleton, I64_append])
          have HSZ : Hid (w.heap.size ≤ wc.heap.size) := Lib.hid HBB.out.size
          clear hread HRN HRS HGK hcn H
          go_wp2_with (at_builtin; refine wpList_append_own _ rfl _ _ 62 rfl w.heap.size 3 i0 (.int .i64 0) 1 8 Tryz.underlying62 hi hz0 hz1 hz2 rfl (by decide) _ _ _ rfl (HO2.out.alloc _) ⟨_, 0, none⟩ 1 1 [.int .i64 (c' : Int)] rfl rfl (cell_one_new _ _ _) (by intro u hu; simp only [List.mem_singleton] at hu; subst hu; rfl) (by unfold maxLen; omega) (by omega) (by have := HSZ.out; simp; omega) ?_; intro v3 w3 hown3 hgrow3 hnn3)
          have HB3 : Hid (Below w.heap.size w w3) := Lib.hid ((HBB.out.alloc HBB.out.size _).grown hgrow3 (by have := HSZ.out; simp; omega) (fun k hk => (HO2.out.lt k hk).1))
          have HO3 : Hid (w3.ownsRow w.heap.size 3 1 v3 (done ++ [c']).length (I64 (Gl.ints (done ++ [c'])))) := Lib.hid (by rw [HAP.out]; simpa using hown3)
          clear hown3 hgrow3 hnn3
          go_wp2_with fail
          go_round
          case rel => exact ⟨pos + n', done ++ [c'], by go_num, hrl, HO3, HB3, HST⟩
          case measure => simp [intOf]; omega
    · have HD := Lib.hid (H.out.done hp)
      have HNE : Hid (Gl.ints (Gl.dec s 0).1 = Gl.ints done ∧ Gl.badI (Gl.dec s 0).2 = -1) := Lib.hid (by rw [HD.out]; exact ⟨rfl, rfl⟩)
      have HL := Lib.hid (IsCh.of_own (w := wr) (base := w.heap.size) (v := u4) (l := Gl.ints done) (by rw [show (Gl.ints done).length = done.length by simp [Gl.ints]]; exact HOW.out))
      go_wp2_with fail
      go_ret2
      exact ⟨_, by rw [HNE.out.2]; rfl, by rw [HNE.out.1]; exact HL.out, HB.out⟩
end Go.Proofs.YtfiefglagknclaaGreatDoor

/-
  scrimref20.Cut: the document's tokens of a line. (Printed by wip/bin/exp.py of wip/tpl/rtok10.main.)
-/
namespace Go.Proofs.YtfiefglagknclaaGreatDoor
open Go.RowKit
set_option maxHeartbeats 4000000
set_option maxRecDepth 100000
set_option linter.unusedVariables false

/-- The document's tokens, the place, the error. -/
def RCutOut (w : World) (r : List Tk.Tok × Nat × Int) (e : Ending) (w' : World) : Prop := ∃ v, e = .returned (.tuple #[v, .int .i64 (r.2.1 : Int), .int .i64 r.2.2]) ∧ IsToksT 70 w' w.heap.size v r.1 ∧ Below w.heap.size w w'
structure RCutAt (l : List Int) (w0 wr : World) (i : Nat) (out : List Tk.Tok) (v : Value) : Prop where
  hi : i ≤ l.length
  len : out.length ≤ i
  toks : IsToksT 70 wr w0.heap.size v out
  below : Below w0.heap.size w0 wr
  told : ∃ f, l.length + 1 ≤ f + i ∧ Tk.goF l (l.length + 1) 0 [] = Tk.goF l f i out
theorem refCut_any (s : ByteArray) (w : World) (hs : s.size ≤ 10000) :
    Calls Tryz.prog 13 #[.string s] w (RCutOut w (Tk.cut s)) := by
  have DEC := Lib.hid (refDecode_any s w (by omega))
  have hmay : ∀ x ∈ Gl.ints (Gl.dec s 0).1, Gl.may x = true := by
    intro x hx
    unfold Gl.ints at hx
    rw [List.mem_map] at hx
    obtain ⟨n, hn, rfl⟩ := hx
    exact Gl.dec_may (s.size + 1) 0 (by omega) n hn
  have hlen : (Gl.ints (Gl.dec s 0).1).length ≤ 10000 := by
    unfold Gl.ints
    rw [List.length_map]
    have := Gl.dec_len (s := s) (s.size + 1) 0 (by omega)
    omega
  have HR : Hid (∀ r e w', Tk.cutL (Gl.ints (Gl.dec s 0).1) (Gl.dec s 0).2 = r → RCutOut w r e w' → RCutOut w (Tk.cut s) e w') := Lib.hid (fun r e w' h h2 => by subst h; exact h2)
  have hbad : Hid (Gl.badI (Gl.dec s 0).2 = match (Gl.dec s 0).2 with | none => -1 | some i => (i : Int)) := Lib.hid (by cases (Gl.dec s 0).2 <;> rfl)
  generalize Gl.ints (Gl.dec s 0).1 = l at *
  obtain ⟨ob, hob⟩ : ∃ ob, ob = (Gl.dec s 0).2 := ⟨_, rfl⟩
  rw [← hob] at DEC HR hbad
  obtain ⟨bad, hbd⟩ : ∃ bad, bad = Gl.badI ob := ⟨_, rfl⟩
  rw [← hbd] at DEC hbad
  clear hob hbd
  have HM := Lib.hid hmay
  clear hmay
  obtain ⟨i0, hi0, hz0, hz1, hz2⟩ := info_parts rtoken_info
  have CA := Lib.hid (fun x wx => refClass_any x wx)
  go_enter Tryz.func13, Tryz.ntmps13
  go_wp2_with fail
  refine DEC.out.mono ?_
  rintro e w1 ⟨lv, rfl, ⟨A, c, rfl, hc1, hc2, hl⟩, hbw⟩
  have HL := Lib.hid hl
  have HBW := Lib.hid hbw
  clear hl hbw
  by_cases hbig : 2000 < l.length
  · have HRE : Hid (Tk.cutL l ob = ([], 0, 7)) := Lib.hid (by unfold Tk.cutL; rw [if_pos hbig])
    have hbig' : (2000 : Int) < (l.length : Int) := by omega
    go_wp2_with fail
    refine bodyPost_ret (results_tmp3 (by rfl) _ _ _ _ _ (by rfl) (by rfl) (by rfl)) rfl (HR.out _ _ _ HRE.out ?_)
    exact ⟨_, rfl, IsToksT.nil _ _ _, HBW.out⟩
  · have hbig' : ¬ (2000 : Int) < (l.length : Int) := by omega
    have H0 : Hid (RCutAt l w1 w1 0 [] (.slice none 0 0)) := Lib.hid ⟨Nat.zero_le _, Nat.le_refl _, IsToksT.nil _ _ _, Below.refl _ _, l.length + 1, by omega, rfl⟩
    go_wp2_with fail
    go_loopw [7, 8] (fun v iv wr => ∃ (i : Nat) (out : List Tk.Tok), iv = .int .i64 (i : Int) ∧ Hid (RCutAt l w1 wr i out v)) (fun _ iv _ => l.length - (intOf iv).toNat)
    case atStart => exact ⟨0, [], by go_num, H0⟩
    case round =>
      clear H0
      obtain ⟨i, out, rfl, HT⟩ := hrel
      have hil := HT.out.hi
      have hol := HT.out.len
      obtain ⟨x, hx⟩ : ∃ x, x = l.getD i (-1) := ⟨_, rfl⟩
      have HX := Lib.hid hx
      by_cases hend : i < l.length ∧ x ≠ 9053
      · obtain ⟨hlt, x9⟩ := hend
        have q2 : (x != 9053) = true := by rw [bne_iff_ne]; exact x9
        have hbl := HT.out.below
        obtain ⟨b, off, rfl, hb, g1⟩ := lies_i64 (HL.out.below hbl) hlt
        rw [← Tk.getD_in hlt, ← hx] at g1
        obtain ⟨k, hk⟩ : ∃ k, k = Tk.cls x := ⟨_, rfl⟩
        have C1 := Lib.hid (CA.out x wr)
        rw [← hk] at C1
        have HK := Lib.hid hk
        have HX9 : Hid (l.getD i (-1) ≠ 9053) := Lib.hid (by rw [← HX.out]; exact x9)
        clear hx hk hb x9
        by_cases k1 : k = 1
        · have q1 : (k == 1) = true := by rw [k1]; rfl
          have HN : Hid (∀ w', Below wr.heap.size wr w' → RCutAt l w1 w' (i + 1) out u7) := Lib.hid (fun w' h => ⟨hlt, by omega, HT.out.toks.below h, hbl.trans (h.mono hbl.size), by
            obtain ⟨f, hf, ht⟩ := HT.out.told
            obtain ⟨f, rfl⟩ : ∃ g, f = g + 1 := ⟨f - 1, by omega⟩
            have hcl : Tk.cls (l.getD i (-1)) = 1 := by rw [← HX.out, ← HK.out]; exact k1
            exact ⟨f, by omega, by rw [ht, goF_blank hlt HX9.out hcl]⟩⟩)
          clear k1 hbl
          go_wp2_with fail
          refine C1.out.mono ?_
          rintro e w' ⟨rfl, hb'⟩
          have HN2 := Lib.hid (HN.out w' hb')
          clear hb'
          go_wp2_with fail
          go_round
          case rel => exact ⟨i + 1, out, by go_num, HN2⟩
          case measure => simp [intOf]; omega
        · have q1 : (k == 1) = false := beq_eq_false_iff_ne.2 k1
          have hcl : Tk.cls (l.getD i (-1)) ≠ 1 := by rw [← HX.out, ← HK.out]; exact k1
          have NX := Lib.hid (fun (w' : World) (h : Below w1.heap.size w1 w') => refRead_any (some ⟨b, off, none⟩) c l i w' ((HL.out.below h).more h.size) (by omega) hc1 HM.out hlt)
          have HBL := Lib.hid hbl
          have HCL := Lib.hid hcl
          clear k1 hbl hcl
          go_wp2_with fail
          refine C1.out.mono ?_
          rintro e w4 ⟨rfl, hb4⟩
          have HB4 : Hid (Below w1.heap.size w1 w4) := Lib.hid (HBL.out.trans (hb4.mono HBL.out.size))
          have HT4 : Hid (IsToksT 70 w4 w1.heap.size u7 out) := Lib.hid (HT.out.toks.below hb4)
          clear hb4
          go_wp2_with fail
          refine (NX.out w4 HB4.out).mono ?_
          intro e w5 h
          obtain ⟨t, n, n1, n2, lv, he, h1, h2, h3, h4, h5⟩ := h
          obtain ⟨r, hr⟩ : ∃ r, r = Tk.read l i := ⟨_, rfl⟩
          rw [← hr] at he h5
          obtain ⟨rt, rn, er⟩ := r
          dsimp only at he h5
          have he : e = .returned (.tuple #[.agg #[.int .i64 t.kind, .bool t.n.neg, n1, n2, lv, .string ⟨t.s.toArray⟩, .int .i64 t.c, .int .i64 (t.at_ : Int)], .int .i64 (n : Int), .int .i64 er]) := he
          subst he
          have h1' := h1
          have h2' := h2
          obtain ⟨A1, c1, rfl, _⟩ := h1'
          obtain ⟨A2, c2, rfl, _⟩ := h2'
          obtain ⟨A3, c3, rfl, _, _⟩ := own_slice h3
          have HG6 : Hid ((w5.alloc (.cells #[.int .i64 0, .bool false, .slice none 0 0, .slice none 0 0, .slice none 0 0, .string ⟨#[]⟩, .int .i64 0, .int .i64 0] 70)).heap[w5.heap.size]? = some (.cells #[.int .i64 0, .bool false, .slice none 0 0, .slice none 0 0, .slice none 0 0, .string ⟨#[]⟩, .int .i64 0, .int .i64 0] 70 (0, 0))) := Lib.hid (heap_alloc_new w5 _)
          obtain ⟨W7, hW7⟩ : ∃ W7, W7 = (w5.alloc (.cells #[.int .i64 0, .bool false, .slice none 0 0, .slice none 0 0, .slice none 0 0, .string ⟨#[]⟩, .int .i64 0, .int .i64 0] 70)).setRow w5.heap.size #[.int .i64 t.kind, .bool t.n.neg, .slice A1 t.n.top.length c1, .slice A2 t.n.bot.length c2, .slice A3 t.l.length c3, .string ⟨t.s.toArray⟩, .int .i64 t.c, .int .i64 (t.at_ : Int)] := ⟨_, rfl⟩
          have HB7 : Hid (Below w5.heap.size w5 W7) := Lib.hid (by rw [hW7]; exact rBelow.setRow ((Below.refl _ _).alloc (Nat.le_refl _) _) (Nat.le_refl _) _)
          have HG7 : Hid (W7.heap[w5.heap.size]? = some (.cells #[.int .i64 t.kind, .bool t.n.neg, .slice A1 t.n.top.length c1, .slice A2 t.n.bot.length c2, .slice A3 t.l.length c3, .string ⟨t.s.toArray⟩, .int .i64 t.c, .int .i64 (t.at_ : Int)] 70 (0, 0))) := Lib.hid (by rw [hW7]; exact rheap_same HG6.out)
          have HW7 := Lib.hid hW7
          have HRD := Lib.hid hr
          have H1 := Lib.hid h1
          have H2 := Lib.hid h2
          have H3 := Lib.hid h3
          have H4 := Lib.hid h4
          have H5 := Lib.hid h5
          clear hW7 hr h1 h2 h3 h4 h5
          go_upto_region 10 with (with_reducible refine wpList_store_row rfl 70 (.tmp 9) (.tmp 43) rfl w5.heap.size #[.int .i64 t.kind, .bool t.n.neg, .slice A1 t.n.top.length c1, .slice A2 t.n.bot.length c2, .slice A3 t.l.length c3, .string ⟨t.s.toArray⟩, .int .i64 t.c, .int .i64 (t.at_ : Int)] rfl rfl 70 #[.int .i64 0, .bool false, .slice none 0 0, .slice none 0 0, .slice none 0 0, .string ⟨#[]⟩, .int .i64 0, .int .i64 0] HG6.out (rtok_infoR _ _ _ _ _ _ _ _) rfl (rtok_one _ _ _ _ _ _ _ _ _ _ _ _ _ _) ?_)
          rw [← HW7.out]
          by_cases e0 : er = 0
          · subst e0
            obtain ⟨e1, e2⟩ := H5.out rfl
            subst e1 e2
            have HAT : Hid (t.at_ = i) := Lib.hid (by
              have h := (Tk.read_ok (l := l) (i := i) (by rw [← HRD.out])).2
              rw [← HRD.out] at h
              exact h)
            have HEN2 : Hid (1 ≤ n ∧ i + n ≤ l.length) := Lib.hid (by
              have h := Tk.read_len (l := l) (i := i) hlt (by rw [← HRD.out])
              rw [← HRD.out] at h
              exact h)
            obtain ⟨xs, t1, t2⟩ := HT4.out
            have OWN9 : Hid ((W7.alloc (.cells #[.int .i64 t.kind, .bool t.n.neg, .slice A1 t.n.top.length c1, .slice A2 t.n.bot.length c2, .slice A3 t.l.length c3, .string ⟨t.s.toArray⟩, .int .i64 t.c, .int .i64 (t.at_ : Int)] 70)).ownsQ NoU w1.heap.size 70 8 u7 out.length xs) := Lib.hid (ownsQ_below (ownsQ_below (ownsQ_below t1 H4.out) HB7.out) ((Below.refl _ _).alloc (Nat.le_refl _) _))
            have R9 : Hid (TokRows (W7.alloc (.cells #[.int .i64 t.kind, .bool t.n.neg, .slice A1 t.n.top.length c1, .slice A2 t.n.bot.length c2, .slice A3 t.l.length c3, .string ⟨t.s.toArray⟩, .int .i64 t.c, .int .i64 (t.at_ : Int)] 70)) out xs) := Lib.hid (((t2.below H4.out).below HB7.out).below ((Below.refl _ _).alloc (Nat.le_refl _) _))
            have b7 : Below w4.heap.size w4 W7 := H4.out.trans (HB7.out.mono H4.out.size)
            have B9 : Hid (Below w1.heap.size w1 (W7.alloc (.cells #[.int .i64 t.kind, .bool t.n.neg, .slice A1 t.n.top.length c1, .slice A2 t.n.bot.length c2, .slice A3 t.l.length c3, .string ⟨t.s.toArray⟩, .int .i64 t.c, .int .i64 (t.at_ : Int)] 70))) := Lib.hid ((HB4.out.trans (b7.mono HB4.out.size)).alloc (Nat.le_trans HB4.out.size b7.size) _)
            have K1 := Lib.hid ((H1.out.below_ HB7.out).below_ (w' := W7.alloc (.cells #[.int .i64 t.kind, .bool t.n.neg, .slice A1 t.n.top.length c1, .slice A2 t.n.bot.length c2, .slice A3 t.l.length c3, .string ⟨t.s.toArray⟩, .int .i64 t.c, .int .i64 (t.at_ : Int)] 70)) ((Below.refl _ _).alloc (Nat.le_refl _) _))
            have K2 := Lib.hid ((H2.out.below_ HB7.out).below_ (w' := W7.alloc (.cells #[.int .i64 t.kind, .bool t.n.neg, .slice A1 t.n.top.length c1, .slice A2 t.n.bot.length c2, .slice A3 t.l.length c3, .string ⟨t.s.toArray⟩, .int .i64 t.c, .int .i64 (t.at_ : Int)] 70)) ((Below.refl _ _).alloc (Nat.le_refl _) _))
            have K3 := Lib.hid (own_below_ (own_below_ H3.out HB7.out) (w' := W7.alloc (.cells #[.int .i64 t.kind, .bool t.n.neg, .slice A1 t.n.top.length c1, .slice A2 t.n.bot.length c2, .slice A3 t.l.length c3, .string ⟨t.s.toArray⟩, .int .i64 t.c, .int .i64 (t.at_ : Int)] 70)) ((Below.refl _ _).alloc (Nat.le_refl _) _))
            have hme : i < i + n ∧ i + n ≤ l.length := by have := HEN2.out; omega
            clear t1 t2 b7
            go_wp2_with (first | (with_reducible refine wpList_load_row rfl 70 (.tmp 9) rfl w5.heap.size rfl 70 #[.int .i64 t.kind, .bool t.n.neg, .slice A1 t.n.top.length c1, .slice A2 t.n.bot.length c2, .slice A3 t.l.length c3, .string ⟨t.s.toArray⟩, .int .i64 t.c, .int .i64 (t.at_ : Int)] (0, 0) _ HG7.out Tryz.underlying70 rfl (rtok_infoR _ _ _ _ _ _ _ _) ?_) | (at_builtin; refine wpList_append_ownQ _ rfl _ _ 39 rfl NoU w1.heap.size 70 i0 _ 8 120 Tryz.underlying39 hi0 hz0 hz1 hz2 rfl (by decide) tokZ_noU _ _ xs rfl OWN9.out ⟨_, 0, none⟩ 1 1 (tokCells t.kind t.n.neg (.slice A1 t.n.top.length c1) (.slice A2 t.n.bot.length c2) (.slice A3 t.l.length c3) t.s t.c (t.at_ : Int)) rfl rfl (cells_new _ _ _) (by intro u hu; unfold tokCells at hu; simp only [List.mem_cons, List.not_mem_nil, or_false] at hu; rcases hu with rfl | rfl | rfl | rfl | rfl | rfl | rfl | rfl <;> rfl) (tokCells_noU _ _ K1.out.noU K2.out.noU (own_noU K3.out) _ _ _) (by unfold maxLen; omega) (by omega) B9.out.size ?_; intro v' w10 hown' hgr hnil hat))
            have HN : Hid (RCutAt l w1 w10 (i + n) (out ++ [t]) v') := Lib.hid
              { hi := HEN2.out.2
                len := by rw [List.length_append]; have := HEN2.out.1; simp only [List.length_cons, List.length_nil]; omega
                toks := ⟨_, by rw [List.length_append]; exact hown', TokRows.snoc (K1.out.grownQ OWN9.out hgr) (K2.out.grownQ OWN9.out hgr) (own_grown_t K3.out OWN9.out (by decide) hgr) (R9.out.grown OWN9.out (by decide) hgr)⟩
                below := B9.out.grown hgr B9.out.size (fun k hk => (OWN9.out.own.lt k hk).1)
                told := by
                  obtain ⟨f, hf, ht⟩ := HT.out.told
                  obtain ⟨f, rfl⟩ : ∃ g, f = g + 1 := ⟨f - 1, by omega⟩
                  refine ⟨f, by have := HEN2.out.1; omega, ?_⟩
                  rw [ht, goF_next hlt HX9.out HCL.out (by rw [← HRD.out]), ← HRD.out] }
            clear hown' hgr hnil hat
            go_round
            case rel => exact ⟨i + n, out ++ [t], by go_num, HN⟩
            case measure => simp [intOf]; omega
          · have q3 : (er != 0) = true := by rw [bne_iff_ne]; exact e0
            have HRE : Hid (Tk.cutL l ob = ([], i, er)) := Lib.hid (by
              obtain ⟨f, hf, ht⟩ := HT.out.told
              rw [goF_bad hlt HX9.out HCL.out (by rw [← HRD.out]; exact e0) (by omega), ← HRD.out] at ht
              unfold Tk.cutL
              rw [if_neg hbig, ht, if_pos e0])
            have b5 : Below w1.heap.size w1 w5 := HB4.out.trans (H4.out.mono HB4.out.size)
            have B7 : Hid (Below w.heap.size w W7) := Lib.hid ((HBW.out.trans (b5.mono HBW.out.size)).trans (HB7.out.mono (Nat.le_trans HBW.out.size b5.size)))
            clear e0 b5
            go_wp2_with fail
            refine bodyPost_ret (results_tmp3 (by rfl) _ _ _ _ _ (by rfl) (by rfl) (by rfl)) rfl (HR.out _ _ _ HRE.out ?_)
            exact ⟨_, rfl, IsToksT.nil _ _ _, B7.out⟩
      · have HTD : Hid (Tk.goF l (l.length + 1) 0 [] = (out, 0, 0)) := Lib.hid (by
          obtain ⟨f, hf, ht⟩ := HT.out.told
          rw [ht, goF_end (by
            rcases Nat.lt_or_ge i l.length with h | h
            · exact .inr (by rw [← hx]; exact Classical.byContradiction (fun h9 => hend ⟨h, h9⟩))
            · exact .inl h) (by omega)])
        have hbl := HT.out.below
        have HBF : Hid (Below w.heap.size w wr) := Lib.hid (HBW.out.trans (hbl.mono HBW.out.size))
        have HTK : Hid (IsToksT 70 wr w.heap.size u7 out) := Lib.hid (by
          obtain ⟨xs, t1, t2⟩ := HT.out.toks
          exact ⟨xs, t1.mono HBW.out.size, t2⟩)
        have hend0 := hend
        have hex : i < l.length ∧ x = 9053 ∨ ¬ i < l.length := by
          rcases Nat.lt_or_ge i l.length with h | h
          · exact .inl ⟨h, Classical.byContradiction (fun h9 => hend0 ⟨h, h9⟩)⟩
          · exact .inr (by omega)
        have HEX := Lib.hid hex
        clear hex hx hbl hend hend0
        cases ob with
        | none =>
          have hbad' : bad = -1 := hbad.out
          subst hbad'
          have HRE : Hid (Tk.cutL l none = (out, 0, 0)) := Lib.hid (by
            unfold Tk.cutL
            rw [if_neg hbig, HTD.out]
            rfl)
          rcases HEX.out with ⟨hlt, x9⟩ | hlt
          · obtain ⟨b, off, rfl, hb, g1⟩ := lies_i64 (HL.out.below HT.out.below) hlt
            rw [← Tk.getD_in hlt, ← HX.out] at g1
            have q2 : (x != 9053) = false := by rw [x9]; rfl
            clear x9 hb
            go_wp2_with fail
            refine bodyPost_ret (results_tmp3 (by rfl) _ _ _ _ _ (by rfl) (by rfl) (by rfl)) rfl (HR.out _ _ _ HRE.out ?_)
            exact ⟨_, rfl, HTK.out, HBF.out⟩
          · go_wp2_with fail
            refine bodyPost_ret (results_tmp3 (by rfl) _ _ _ _ _ (by rfl) (by rfl) (by rfl)) rfl (HR.out _ _ _ HRE.out ?_)
            exact ⟨_, rfl, HTK.out, HBF.out⟩
        | some p =>
          have hbad' : bad = (p : Int) := hbad.out
          subst hbad'
          have HRE : Hid (Tk.cutL l (some p) = ([], l.length, 1)) := Lib.hid (by
            unfold Tk.cutL
            rw [if_neg hbig, HTD.out]
            rfl)
          have hp : (0 : Int) ≤ (p : Int) := by omega
          rcases HEX.out with ⟨hlt, x9⟩ | hlt
          · obtain ⟨b, off, rfl, hb, g1⟩ := lies_i64 (HL.out.below HT.out.below) hlt
            rw [← Tk.getD_in hlt, ← HX.out] at g1
            have q2 : (x != 9053) = false := by rw [x9]; rfl
            clear x9 hb
            go_wp2_with fail
            refine bodyPost_ret (results_tmp3 (by rfl) _ _ _ _ _ (by rfl) (by rfl) (by rfl)) rfl (HR.out _ _ _ HRE.out ?_)
            exact ⟨_, rfl, IsToksT.nil _ _ _, HBF.out⟩
          · go_wp2_with fail
            refine bodyPost_ret (results_tmp3 (by rfl) _ _ _ _ _ (by rfl) (by rfl) (by rfl)) rfl (HR.out _ _ _ HRE.out ?_)
            exact ⟨_, rfl, IsToksT.nil _ _ _, HBF.out⟩
end Go.Proofs.YtfiefglagknclaaGreatDoor

/-
  scrimref20.Same: the same tokens are the same.
-/
namespace Go.Proofs.YtfiefglagknclaaGreatDoor
open Go.RowKit
set_option maxHeartbeats 4000000
set_option maxRecDepth 100000
set_option linter.unusedVariables false

theorem numSame_any (n n' : Rt.Nm) (v1 v2 v1' v2' : Value) (w : World) (h1 : IsRes w v1 n.top) (h2 : IsRes w v2 n.bot) (h1' : IsRes w v1' n'.top) (h2' : IsRes w v2' n'.bot) :
    Calls Tryz.prog 10 #[.agg #[.bool n.neg, v1, v2], .agg #[.bool n'.neg, v1', v2']] w fun e w' => e = .returned (.bool (decide (n = n'))) ∧ Below w.heap.size w w' := by
  obtain ⟨A1, c1, rfl, a1, a2, a3, a4⟩ := h1
  obtain ⟨A2, c2, rfl, b1, b2, b3, b4⟩ := h2
  obtain ⟨A3, c3, rfl, d1, d2, d3, d4⟩ := h1'
  obtain ⟨A4, c4, rfl, e1, e2, e3, e4⟩ := h2'
  have := refRatioSame_any n.neg n'.neg n.top n'.top n.bot n'.bot A1 A2 A3 A4 c1 c2 c3 c4 w w.heap.size a4 d4 b4 e4 (Nat.le_refl _) (by omega) (by omega) (by omega) (by omega)
  have e : sameNum n.neg n'.neg n.top n'.top n.bot n'.bot = decide (n = n') := by
    unfold sameNum
    obtain ⟨x, y, z⟩ := n
    obtain ⟨x', y', z'⟩ := n'
    rw [Bool.eq_iff_iff]
    simp [and_assoc]
  rwa [e] at this

theorem sameToks_any (v1 v2 : Value) (ts : List Tk.Tok) (w : World) (base1 base2 : Nat) (h1 : IsToksT 70 w base1 v1 ts) (h2 : IsToksT 70 w base2 v2 ts) (hn : ts.length ≤ 100000) (hln : ∀ t ∈ ts, t.l.length ≤ 1000000) :
    Calls Tryz.prog 14 #[v1, v2] w fun e w' => e = .returned (.bool true) ∧ Below w.heap.size w w' := by
  obtain ⟨A, c, rfl, hc1, hc2, hatA⟩ := h1.open_
  obtain ⟨B, d, rfl, hd1, hd2, hatB⟩ := h2.open_
  have HATA := Lib.hid hatA
  have HATB := Lib.hid hatB
  have HLN := Lib.hid hln
  clear h1 h2 hatA hatB hln
  have q0 : ((ts.length : Int) != (ts.length : Int)) = false := by simp
  go_enter Tryz.func14, Tryz.ntmps14
  go_wp2_with fail
  go_loopw [5] (fun iv wr => ∃ j : Nat, iv = .int .i64 (j : Int) ∧ j ≤ ts.length ∧ Hid (Below w.heap.size w wr)) (fun iv _ => ts.length - (intOf iv).toNat)
  case atStart => exact ⟨0, by go_num, Nat.zero_le _, Lib.hid (Below.refl _ _)⟩
  case round =>
    obtain ⟨j, rfl, hj, HB⟩ := hrel
    by_cases hlt : j < ts.length
    · obtain ⟨ga, n1, n2, lv, rfl, hga, _, hra, i1, i2, i3⟩ := HATA.out j hlt
      obtain ⟨gb, o1, o2, ov, rfl, hgb, _, hrb, k1, k2, k3⟩ := HATB.out j hlt
      have HRA := Lib.hid (rangeAt_below HB.out hga hra)
      have HRB := Lib.hid (rangeAt_below HB.out hgb hrb)
      have HTL := Lib.hid (HLN.out ts[j] (List.getElem_mem hlt))
      obtain ⟨t, ht⟩ : ∃ t, t = ts[j] := ⟨_, rfl⟩
      rw [← ht] at HRA HRB i1 i2 i3 k1 k2 k3 HTL
      clear hra hrb ht
      have I1 := Lib.hid i1
      have I2 := Lib.hid i2
      have I3 := Lib.hid i3
      have K1 := Lib.hid k1
      have K2 := Lib.hid k2
      have K3 := Lib.hid k3
      obtain ⟨A1, Ac1, rfl, _⟩ := i1
      obtain ⟨A2, Ac2, rfl, _⟩ := i2
      obtain ⟨A3, Ac3, rfl, _, _⟩ := own_slice i3
      obtain ⟨B1, Bc1, rfl, _⟩ := k1
      obtain ⟨B2, Bc2, rfl, _⟩ := k2
      obtain ⟨B3, Bc3, rfl, _, _⟩ := own_slice k3
      unfold tokCells at HRA HRB
      have hgaw : ga < wr.heap.size := Nat.lt_of_lt_of_le hga HB.out.size
      have hgbw : gb < wr.heap.size := Nat.lt_of_lt_of_le hgb HB.out.size
      have e1 : Below wr.heap.size wr (wr.alloc (.cells #[.int .i64 0, .bool false, .slice none 0 0, .slice none 0 0, .slice none 0 0, .string ⟨#[]⟩, .int .i64 0, .int .i64 0] 70)) := (Below.refl _ _).alloc (Nat.le_refl _) _
      have e2 : Below wr.heap.size wr ((wr.alloc (.cells #[.int .i64 0, .bool false, .slice none 0 0, .slice none 0 0, .slice none 0 0, .string ⟨#[]⟩, .int .i64 0, .int .i64 0] 70)).alloc (.cells #[.int .i64 0, .bool false, .slice none 0 0, .slice none 0 0, .slice none 0 0, .string ⟨#[]⟩, .int .i64 0, .int .i64 0] 70)) := e1.alloc e1.size _
      have a0 : wr.cell? ⟨ga, j * 8, none⟩ = some (.int .i64 t.kind) := HRA.out 0 _ rfl
      have a1 : wr.cell? ⟨ga, j * 8 + 1, none⟩ = some (.bool t.n.neg) := HRA.out 1 _ rfl
      have a2 : wr.cell? ⟨ga, j * 8 + 2, none⟩ = some (.slice A1 t.n.top.length Ac1) := HRA.out 2 _ rfl
      have a3 : wr.cell? ⟨ga, j * 8 + 3, none⟩ = some (.slice A2 t.n.bot.length Ac2) := HRA.out 3 _ rfl
      have a4 : wr.cell? ⟨ga, j * 8 + 4, none⟩ = some (.slice A3 t.l.length Ac3) := HRA.out 4 _ rfl
      have a5 : wr.cell? ⟨ga, j * 8 + 5, none⟩ = some (.string ⟨t.s.toArray⟩) := HRA.out 5 _ rfl
      have a6 : wr.cell? ⟨ga, j * 8 + 6, none⟩ = some (.int .i64 t.c) := HRA.out 6 _ rfl
      have a7 : wr.cell? ⟨ga, j * 8 + 7, none⟩ = some (.int .i64 (t.at_ : Int)) := HRA.out 7 _ rfl
      have b0 : wr.cell? ⟨gb, j * 8, none⟩ = some (.int .i64 t.kind) := HRB.out 0 _ rfl
      have b1 : wr.cell? ⟨gb, j * 8 + 1, none⟩ = some (.bool t.n.neg) := HRB.out 1 _ rfl
      have b2 : wr.cell? ⟨gb, j * 8 + 2, none⟩ = some (.slice B1 t.n.top.length Bc1) := HRB.out 2 _ rfl
      have b3 : wr.cell? ⟨gb, j * 8 + 3, none⟩ = some (.slice B2 t.n.bot.length Bc2) := HRB.out 3 _ rfl
      have b4 : wr.cell? ⟨gb, j * 8 + 4, none⟩ = some (.slice B3 t.l.length Bc3) := HRB.out 4 _ rfl
      have b5 : wr.cell? ⟨gb, j * 8 + 5, none⟩ = some (.string ⟨t.s.toArray⟩) := HRB.out 5 _ rfl
      have b6 : wr.cell? ⟨gb, j * 8 + 6, none⟩ = some (.int .i64 t.c) := HRB.out 6 _ rfl
      have b7 : wr.cell? ⟨gb, j * 8 + 7, none⟩ = some (.int .i64 (t.at_ : Int)) := HRB.out 7 _ rfl
      have xa0 : (wr.alloc (.cells #[.int .i64 0, .bool false, .slice none 0 0, .slice none 0 0, .slice none 0 0, .string ⟨#[]⟩, .int .i64 0, .int .i64 0] 70)).cell? ⟨ga, j * 8, none⟩ = some (.int .i64 t.kind) := (e1.cell (p := ⟨ga, j * 8, none⟩) hgaw).trans a0
      have xa1 : (wr.alloc (.cells #[.int .i64 0, .bool false, .slice none 0 0, .slice none 0 0, .slice none 0 0, .string ⟨#[]⟩, .int .i64 0, .int .i64 0] 70)).cell? ⟨ga, j * 8 + 1, none⟩ = some (.bool t.n.neg) := (e1.cell (p := ⟨ga, j * 8 + 1, none⟩) hgaw).trans a1
      have xa2 : (wr.alloc (.cells #[.int .i64 0, .bool false, .slice none 0 0, .slice none 0 0, .slice none 0 0, .string ⟨#[]⟩, .int .i64 0, .int .i64 0] 70)).cell? ⟨ga, j * 8 + 2, none⟩ = some (.slice A1 t.n.top.length Ac1) := (e1.cell (p := ⟨ga, j * 8 + 2, none⟩) hgaw).trans a2
      have xa3 : (wr.alloc (.cells #[.int .i64 0, .bool false, .slice none 0 0, .slice none 0 0, .slice none 0 0, .string ⟨#[]⟩, .int .i64 0, .int .i64 0] 70)).cell? ⟨ga, j * 8 + 3, none⟩ = some (.slice A2 t.n.bot.length Ac2) := (e1.cell (p := ⟨ga, j * 8 + 3, none⟩) hgaw).trans a3
      have xa4 : (wr.alloc (.cells #[.int .i64 0, .bool false, .slice none 0 0, .slice none 0 0, .slice none 0 0, .string ⟨#[]⟩, .int .i64 0, .int .i64 0] 70)).cell? ⟨ga, j * 8 + 4, none⟩ = some (.slice A3 t.l.length Ac3) := (e1.cell (p := ⟨ga, j * 8 + 4, none⟩) hgaw).trans a4
      have xa5 : (wr.alloc (.cells #[.int .i64 0, .bool false, .slice none 0 0, .slice none 0 0, .slice none 0 0, .string ⟨#[]⟩, .int .i64 0, .int .i64 0] 70)).cell? ⟨ga, j * 8 + 5, none⟩ = some (.string ⟨t.s.toArray⟩) := (e1.cell (p := ⟨ga, j * 8 + 5, none⟩) hgaw).trans a5
      have xa6 : (wr.alloc (.cells #[.int .i64 0, .bool false, .slice none 0 0, .slice none 0 0, .slice none 0 0, .string ⟨#[]⟩, .int .i64 0, .int .i64 0] 70)).cell? ⟨ga, j * 8 + 6, none⟩ = some (.int .i64 t.c) := (e1.cell (p := ⟨ga, j * 8 + 6, none⟩) hgaw).trans a6
      have xa7 : (wr.alloc (.cells #[.int .i64 0, .bool false, .slice none 0 0, .slice none 0 0, .slice none 0 0, .string ⟨#[]⟩, .int .i64 0, .int .i64 0] 70)).cell? ⟨ga, j * 8 + 7, none⟩ = some (.int .i64 (t.at_ : Int)) := (e1.cell (p := ⟨ga, j * 8 + 7, none⟩) hgaw).trans a7
      have xb0 : (wr.alloc (.cells #[.int .i64 0, .bool false, .slice none 0 0, .slice none 0 0, .slice none 0 0, .string ⟨#[]⟩, .int .i64 0, .int .i64 0] 70)).cell? ⟨gb, j * 8, none⟩ = some (.int .i64 t.kind) := (e1.cell (p := ⟨gb, j * 8, none⟩) hgbw).trans b0
      have xb1 : (wr.alloc (.cells #[.int .i64 0, .bool false, .slice none 0 0, .slice none 0 0, .slice none 0 0, .string ⟨#[]⟩, .int .i64 0, .int .i64 0] 70)).cell? ⟨gb, j * 8 + 1, none⟩ = some (.bool t.n.neg) := (e1.cell (p := ⟨gb, j * 8 + 1, none⟩) hgbw).trans b1
      have xb2 : (wr.alloc (.cells #[.int .i64 0, .bool false, .slice none 0 0, .slice none 0 0, .slice none 0 0, .string ⟨#[]⟩, .int .i64 0, .int .i64 0] 70)).cell? ⟨gb, j * 8 + 2, none⟩ = some (.slice B1 t.n.top.length Bc1) := (e1.cell (p := ⟨gb, j * 8 + 2, none⟩) hgbw).trans b2
      have xb3 : (wr.alloc (.cells #[.int .i64 0, .bool false, .slice none 0 0, .slice none 0 0, .slice none 0 0, .string ⟨#[]⟩, .int .i64 0, .int .i64 0] 70)).cell? ⟨gb, j * 8 + 3, none⟩ = some (.slice B2 t.n.bot.length Bc2) := (e1.cell (p := ⟨gb, j * 8 + 3, none⟩) hgbw).trans b3
      have xb4 : (wr.alloc (.cells #[.int .i64 0, .bool false, .slice none 0 0, .slice none 0 0, .slice none 0 0, .string ⟨#[]⟩, .int .i64 0, .int .i64 0] 70)).cell? ⟨gb, j * 8 + 4, none⟩ = some (.slice B3 t.l.length Bc3) := (e1.cell (p := ⟨gb, j * 8 + 4, none⟩) hgbw).trans b4
      have xb5 : (wr.alloc (.cells #[.int .i64 0, .bool false, .slice none 0 0, .slice none 0 0, .slice none 0 0, .string ⟨#[]⟩, .int .i64 0, .int .i64 0] 70)).cell? ⟨gb, j * 8 + 5, none⟩ = some (.string ⟨t.s.toArray⟩) := (e1.cell (p := ⟨gb, j * 8 + 5, none⟩) hgbw).trans b5
      have xb6 : (wr.alloc (.cells #[.int .i64 0, .bool false, .slice none 0 0, .slice none 0 0, .slice none 0 0, .string ⟨#[]⟩, .int .i64 0, .int .i64 0] 70)).cell? ⟨gb, j * 8 + 6, none⟩ = some (.int .i64 t.c) := (e1.cell (p := ⟨gb, j * 8 + 6, none⟩) hgbw).trans b6
      have xb7 : (wr.alloc (.cells #[.int .i64 0, .bool false, .slice none 0 0, .slice none 0 0, .slice none 0 0, .string ⟨#[]⟩, .int .i64 0, .int .i64 0] 70)).cell? ⟨gb, j * 8 + 7, none⟩ = some (.int .i64 (t.at_ : Int)) := (e1.cell (p := ⟨gb, j * 8 + 7, none⟩) hgbw).trans b7
      have ya0 : ((wr.alloc (.cells #[.int .i64 0, .bool false, .slice none 0 0, .slice none 0 0, .slice none 0 0, .string ⟨#[]⟩, .int .i64 0, .int .i64 0] 70)).alloc (.cells #[.int .i64 0, .bool false, .slice none 0 0, .slice none 0 0, .slice none 0 0, .string ⟨#[]⟩, .int .i64 0, .int .i64 0] 70)).cell? ⟨ga, j * 8, none⟩ = some (.int .i64 t.kind) := (e2.cell (p := ⟨ga, j * 8, none⟩) hgaw).trans a0
      have ya1 : ((wr.alloc (.cells #[.int .i64 0, .bool false, .slice none 0 0, .slice none 0 0, .slice none 0 0, .string ⟨#[]⟩, .int .i64 0, .int .i64 0] 70)).alloc (.cells #[.int .i64 0, .bool false, .slice none 0 0, .slice none 0 0, .slice none 0 0, .string ⟨#[]⟩, .int .i64 0, .int .i64 0] 70)).cell? ⟨ga, j * 8 + 1, none⟩ = some (.bool t.n.neg) := (e2.cell (p := ⟨ga, j * 8 + 1, none⟩) hgaw).trans a1
      have ya2 : ((wr.alloc (.cells #[.int .i64 0, .bool false, .slice none 0 0, .slice none 0 0, .slice none 0 0, .string ⟨#[]⟩, .int .i64 0, .int .i64 0] 70)).alloc (.cells #[.int .i64 0, .bool false, .slice none 0 0, .slice none 0 0, .slice none 0 0, .string ⟨#[]⟩, .int .i64 0, .int .i64 0] 70)).cell? ⟨ga, j * 8 + 2, none⟩ = some (.slice A1 t.n.top.length Ac1) := (e2.cell (p := ⟨ga, j * 8 + 2, none⟩) hgaw).trans a2
      have ya3 : ((wr.alloc (.cells #[.int .i64 0, .bool false, .slice none 0 0, .slice none 0 0, .slice none 0 0, .string ⟨#[]⟩, .int .i64 0, .int .i64 0] 70)).alloc (.cells #[.int .i64 0, .bool false, .slice none 0 0, .slice none 0 0, .slice none 0 0, .string ⟨#[]⟩, .int .i64 0, .int .i64 0] 70)).cell? ⟨ga, j * 8 + 3, none⟩ = some (.slice A2 t.n.bot.length Ac2) := (e2.cell (p := ⟨ga, j * 8 + 3, none⟩) hgaw).trans a3
      have ya4 : ((wr.alloc (.cells #[.int .i64 0, .bool false, .slice none 0 0, .slice none 0 0, .slice none 0 0, .string ⟨#[]⟩, .int .i64 0, .int .i64 0] 70)).alloc (.cells #[.int .i64 0, .bool false, .slice none 0 0, .slice none 0 0, .slice none 0 0, .string ⟨#[]⟩, .int .i64 0, .int .i64 0] 70)).cell? ⟨ga, j * 8 + 4, none⟩ = some (.slice A3 t.l.length Ac3) := (e2.cell (p := ⟨ga, j * 8 + 4, none⟩) hgaw).trans a4
      have ya5 : ((wr.alloc (.cells #[.int .i64 0, .bool false, .slice none 0 0, .slice none 0 0, .slice none 0 0, .string ⟨#[]⟩, .int .i64 0, .int .i64 0] 70)).alloc (.cells #[.int .i64 0, .bool false, .slice none 0 0, .slice none 0 0, .slice none 0 0, .string ⟨#[]⟩, .int .i64 0, .int .i64 0] 70)).cell? ⟨ga, j * 8 + 5, none⟩ = some (.string ⟨t.s.toArray⟩) := (e2.cell (p := ⟨ga, j * 8 + 5, none⟩) hgaw).trans a5
      have ya6 : ((wr.alloc (.cells #[.int .i64 0, .bool false, .slice none 0 0, .slice none 0 0, .slice none 0 0, .string ⟨#[]⟩, .int .i64 0, .int .i64 0] 70)).alloc (.cells #[.int .i64 0, .bool false, .slice none 0 0, .slice none 0 0, .slice none 0 0, .string ⟨#[]⟩, .int .i64 0, .int .i64 0] 70)).cell? ⟨ga, j * 8 + 6, none⟩ = some (.int .i64 t.c) := (e2.cell (p := ⟨ga, j * 8 + 6, none⟩) hgaw).trans a6
      have ya7 : ((wr.alloc (.cells #[.int .i64 0, .bool false, .slice none 0 0, .slice none 0 0, .slice none 0 0, .string ⟨#[]⟩, .int .i64 0, .int .i64 0] 70)).alloc (.cells #[.int .i64 0, .bool false, .slice none 0 0, .slice none 0 0, .slice none 0 0, .string ⟨#[]⟩, .int .i64 0, .int .i64 0] 70)).cell? ⟨ga, j * 8 + 7, none⟩ = some (.int .i64 (t.at_ : Int)) := (e2.cell (p := ⟨ga, j * 8 + 7, none⟩) hgaw).trans a7
      have yb0 : ((wr.alloc (.cells #[.int .i64 0, .bool false, .slice none 0 0, .slice none 0 0, .slice none 0 0, .string ⟨#[]⟩, .int .i64 0, .int .i64 0] 70)).alloc (.cells #[.int .i64 0, .bool false, .slice none 0 0, .slice none 0 0, .slice none 0 0, .string ⟨#[]⟩, .int .i64 0, .int .i64 0] 70)).cell? ⟨gb, j * 8, none⟩ = some (.int .i64 t.kind) := (e2.cell (p := ⟨gb, j * 8, none⟩) hgbw).trans b0
      have yb1 : ((wr.alloc (.cells #[.int .i64 0, .bool false, .slice none 0 0, .slice none 0 0, .slice none 0 0, .string ⟨#[]⟩, .int .i64 0, .int .i64 0] 70)).alloc (.cells #[.int .i64 0, .bool false, .slice none 0 0, .slice none 0 0, .slice none 0 0, .string ⟨#[]⟩, .int .i64 0, .int .i64 0] 70)).cell? ⟨gb, j * 8 + 1, none⟩ = some (.bool t.n.neg) := (e2.cell (p := ⟨gb, j * 8 + 1, none⟩) hgbw).trans b1
      have yb2 : ((wr.alloc (.cells #[.int .i64 0, .bool false, .slice none 0 0, .slice none 0 0, .slice none 0 0, .string ⟨#[]⟩, .int .i64 0, .int .i64 0] 70)).alloc (.cells #[.int .i64 0, .bool false, .slice none 0 0, .slice none 0 0, .slice none 0 0, .string ⟨#[]⟩, .int .i64 0, .int .i64 0] 70)).cell? ⟨gb, j * 8 + 2, none⟩ = some (.slice B1 t.n.top.length Bc1) := (e2.cell (p := ⟨gb, j * 8 + 2, none⟩) hgbw).trans b2
      have yb3 : ((wr.alloc (.cells #[.int .i64 0, .bool false, .slice none 0 0, .slice none 0 0, .slice none 0 0, .string ⟨#[]⟩, .int .i64 0, .int .i64 0] 70)).alloc (.cells #[.int .i64 0, .bool false, .slice none 0 0, .slice none 0 0, .slice none 0 0, .string ⟨#[]⟩, .int .i64 0, .int .i64 0] 70)).cell? ⟨gb, j * 8 + 3, none⟩ = some (.slice B2 t.n.bot.length Bc2) := (e2.cell (p := ⟨gb, j * 8 + 3, none⟩) hgbw).trans b3
      have yb4 : ((wr.alloc (.cells #[.int .i64 0, .bool false, .slice none 0 0, .slice none 0 0, .slice none 0 0, .string ⟨#[]⟩, .int .i64 0, .int .i64 0] 70)).alloc (.cells #[.int .i64 0, .bool false, .slice none 0 0, .slice none 0 0, .slice none 0 0, .string ⟨#[]⟩, .int .i64 0, .int .i64 0] 70)).cell? ⟨gb, j * 8 + 4, none⟩ = some (.slice B3 t.l.length Bc3) := (e2.cell (p := ⟨gb, j * 8 + 4, none⟩) hgbw).trans b4
      have yb5 : ((wr.alloc (.cells #[.int .i64 0, .bool false, .slice none 0 0, .slice none 0 0, .slice none 0 0, .string ⟨#[]⟩, .int .i64 0, .int .i64 0] 70)).alloc (.cells #[.int .i64 0, .bool false, .slice none 0 0, .slice none 0 0, .slice none 0 0, .string ⟨#[]⟩, .int .i64 0, .int .i64 0] 70)).cell? ⟨gb, j * 8 + 5, none⟩ = some (.string ⟨t.s.toArray⟩) := (e2.cell (p := ⟨gb, j * 8 + 5, none⟩) hgbw).trans b5
      have yb6 : ((wr.alloc (.cells #[.int .i64 0, .bool false, .slice none 0 0, .slice none 0 0, .slice none 0 0, .string ⟨#[]⟩, .int .i64 0, .int .i64 0] 70)).alloc (.cells #[.int .i64 0, .bool false, .slice none 0 0, .slice none 0 0, .slice none 0 0, .string ⟨#[]⟩, .int .i64 0, .int .i64 0] 70)).cell? ⟨gb, j * 8 + 6, none⟩ = some (.int .i64 t.c) := (e2.cell (p := ⟨gb, j * 8 + 6, none⟩) hgbw).trans b6
      have yb7 : ((wr.alloc (.cells #[.int .i64 0, .bool false, .slice none 0 0, .slice none 0 0, .slice none 0 0, .string ⟨#[]⟩, .int .i64 0, .int .i64 0] 70)).alloc (.cells #[.int .i64 0, .bool false, .slice none 0 0, .slice none 0 0, .slice none 0 0, .string ⟨#[]⟩, .int .i64 0, .int .i64 0] 70)).cell? ⟨gb, j * 8 + 7, none⟩ = some (.int .i64 (t.at_ : Int)) := (e2.cell (p := ⟨gb, j * 8 + 7, none⟩) hgbw).trans b7
      clear e1 e2
      clear HRA HRB i3 k3
      go_upto_region 6 with fail
      go_cut [6, 7] from 20 to 88 (fun x6 x7 wx => ∃ p q, x6 = .pointer (some ⟨p, 0, none⟩) ∧ x7 = .pointer (some ⟨q, 0, none⟩) ∧ Hid (Below wr.heap.size wr wx) ∧ Hid (wx.heap[p]? = some (.cells #[.int .i64 t.kind, .bool t.n.neg, .slice A1 t.n.top.length Ac1, .slice A2 t.n.bot.length Ac2, .slice A3 t.l.length Ac3, .string ⟨t.s.toArray⟩, .int .i64 t.c, .int .i64 (t.at_ : Int)] 70 (0, 0))) ∧ Hid (wx.heap[q]? = some (.cells #[.int .i64 t.kind, .bool t.n.neg, .slice B1 t.n.top.length Bc1, .slice B2 t.n.bot.length Bc2, .slice B3 t.l.length Bc3, .string ⟨t.s.toArray⟩, .int .i64 t.c, .int .i64 (t.at_ : Int)] 70 (0, 0))))
      case first =>
        go_region
        · go_wp2_with fail
          go_meet
          refine ⟨wr.heap.size, wr.heap.size + 1, rfl, rfl, Lib.hid ?_, Lib.hid ?_, Lib.hid ?_⟩
          · exact (((Below.refl _ _).alloc (Nat.le_refl _) _).alloc (by simp) _).drew
          · exact (Below.heap_alloc _ _ wr.heap.size (by simp)).trans (heap_alloc_new wr _)
          · have h := heap_alloc_new (wr.alloc (.cells #[.int .i64 t.kind, .bool t.n.neg, .slice A1 t.n.top.length Ac1, .slice A2 t.n.bot.length Ac2, .slice A3 t.l.length Ac3, .string ⟨t.s.toArray⟩, .int .i64 t.c, .int .i64 (t.at_ : Int)] 70)) (.cells #[.int .i64 t.kind, .bool t.n.neg, .slice B1 t.n.top.length Bc1, .slice B2 t.n.bot.length Bc2, .slice B3 t.l.length Bc3, .string ⟨t.s.toArray⟩, .int .i64 t.c, .int .i64 (t.at_ : Int)] 70)
            rw [show (wr.alloc (.cells #[.int .i64 t.kind, .bool t.n.neg, .slice A1 t.n.top.length Ac1, .slice A2 t.n.bot.length Ac2, .slice A3 t.l.length Ac3, .string ⟨t.s.toArray⟩, .int .i64 t.c, .int .i64 (t.at_ : Int)] 70)).heap.size = wr.heap.size + 1 by simp] at h
            exact h
        · go_wp2_with fail
          go_meet
          refine ⟨wr.heap.size + 1, wr.heap.size, rfl, rfl, Lib.hid ?_, Lib.hid ?_, Lib.hid ?_⟩
          · exact (((Below.refl _ _).alloc (Nat.le_refl _) _).alloc (by simp) _).drew
          · have h := heap_alloc_new (wr.alloc (.cells #[.int .i64 t.kind, .bool t.n.neg, .slice B1 t.n.top.length Bc1, .slice B2 t.n.bot.length Bc2, .slice B3 t.l.length Bc3, .string ⟨t.s.toArray⟩, .int .i64 t.c, .int .i64 (t.at_ : Int)] 70)) (.cells #[.int .i64 t.kind, .bool t.n.neg, .slice A1 t.n.top.length Ac1, .slice A2 t.n.bot.length Ac2, .slice A3 t.l.length Ac3, .string ⟨t.s.toArray⟩, .int .i64 t.c, .int .i64 (t.at_ : Int)] 70)
            rw [show (wr.alloc (.cells #[.int .i64 t.kind, .bool t.n.neg, .slice B1 t.n.top.length Bc1, .slice B2 t.n.bot.length Bc2, .slice B3 t.l.length Bc3, .string ⟨t.s.toArray⟩, .int .i64 t.c, .int .i64 (t.at_ : Int)] 70)).heap.size = wr.heap.size + 1 by simp] at h
            exact h
          · exact (Below.heap_alloc _ _ wr.heap.size (by simp)).trans (heap_alloc_new wr _)
      case rest =>
        obtain ⟨p, q, rfl, rfl, HBX, HPX, HQX⟩ := hcut
        clear a0 a1 a2 a3 a4 a5 a6 a7 b0 b1 b2 b3 b4 b5 b6 b7 xa0 xa1 xa2 xa3 xa4 xa5 xa6 xa7 xb0 xb1 xb2 xb3 xb4 xb5 xb6 xb7 ya0 ya1 ya2 ya3 ya4 ya5 ya6 ya7 yb0 yb1 yb2 yb3 yb4 yb5 yb6 yb7
        have HBW : Hid (Below w.heap.size w wc) := Lib.hid (HB.out.trans (HBX.out.mono HB.out.size))
        have NS := Lib.hid (numSame_any t.n t.n _ _ _ _ wc (I1.out.below_ HBW.out) (I2.out.below_ HBW.out) (K1.out.below_ HBW.out) (K2.out.below_ HBW.out))
        rw [decide_eq_true rfl] at NS
        have a0 : wc.cell? ⟨p, 0, none⟩ = some (.int .i64 t.kind) := (cell_of_row wc p 0 _ _ _ HPX.out).trans rfl
        have a1 : wc.cell? ⟨p, 1, none⟩ = some (.bool t.n.neg) := (cell_of_row wc p 1 _ _ _ HPX.out).trans rfl
        have a2 : wc.cell? ⟨p, 2, none⟩ = some (.slice A1 t.n.top.length Ac1) := (cell_of_row wc p 2 _ _ _ HPX.out).trans rfl
        have a3 : wc.cell? ⟨p, 3, none⟩ = some (.slice A2 t.n.bot.length Ac2) := (cell_of_row wc p 3 _ _ _ HPX.out).trans rfl
        have a4 : wc.cell? ⟨p, 4, none⟩ = some (.slice A3 t.l.length Ac3) := (cell_of_row wc p 4 _ _ _ HPX.out).trans rfl
        have a5 : wc.cell? ⟨p, 5, none⟩ = some (.string ⟨t.s.toArray⟩) := (cell_of_row wc p 5 _ _ _ HPX.out).trans rfl
        have a6 : wc.cell? ⟨p, 6, none⟩ = some (.int .i64 t.c) := (cell_of_row wc p 6 _ _ _ HPX.out).trans rfl
        have a7 : wc.cell? ⟨p, 7, none⟩ = some (.int .i64 (t.at_ : Int)) := (cell_of_row wc p 7 _ _ _ HPX.out).trans rfl
        have b0 : wc.cell? ⟨q, 0, none⟩ = some (.int .i64 t.kind) := (cell_of_row wc q 0 _ _ _ HQX.out).trans rfl
        have b1 : wc.cell? ⟨q, 1, none⟩ = some (.bool t.n.neg) := (cell_of_row wc q 1 _ _ _ HQX.out).trans rfl
        have b2 : wc.cell? ⟨q, 2, none⟩ = some (.slice B1 t.n.top.length Bc1) := (cell_of_row wc q 2 _ _ _ HQX.out).trans rfl
        have b3 : wc.cell? ⟨q, 3, none⟩ = some (.slice B2 t.n.bot.length Bc2) := (cell_of_row wc q 3 _ _ _ HQX.out).trans rfl
        have b4 : wc.cell? ⟨q, 4, none⟩ = some (.slice B3 t.l.length Bc3) := (cell_of_row wc q 4 _ _ _ HQX.out).trans rfl
        have b5 : wc.cell? ⟨q, 5, none⟩ = some (.string ⟨t.s.toArray⟩) := (cell_of_row wc q 5 _ _ _ HQX.out).trans rfl
        have b6 : wc.cell? ⟨q, 6, none⟩ = some (.int .i64 t.c) := (cell_of_row wc q 6 _ _ _ HQX.out).trans rfl
        have b7 : wc.cell? ⟨q, 7, none⟩ = some (.int .i64 (t.at_ : Int)) := (cell_of_row wc q 7 _ _ _ HQX.out).trans rfl
        have q1 : (t.kind != t.kind) = false := by simp
        have q2 : (t.c != t.c) = false := by simp
        have q3 : ((t.at_ : Int) != (t.at_ : Int)) = false := by simp
        have q4 : ((t.l.length : Int) != (t.l.length : Int)) = false := by simp
        go_wp2_with fail
        refine NS.out.mono ?_
        rintro e w5 ⟨rfl, hb5⟩
        have hp5 := (hb5.block p (blk_lt HPX.out)).trans HPX.out
        have hq5 := (hb5.block q (blk_lt HQX.out)).trans HQX.out
        have HP5 := Lib.hid hp5
        have HQ5 := Lib.hid hq5
        have HB5 : Hid (Below w.heap.size w w5) := Lib.hid (HBW.out.trans (hb5.mono HBW.out.size))
        clear a0 a1 a2 a3 a4 a5 a6 a7 b0 b1 b2 b3 b4 b5 b6 b7
        have a4 : w5.cell? ⟨p, 4, none⟩ = some (.slice A3 t.l.length Ac3) := (cell_of_row w5 p 4 _ _ _ hp5).trans rfl
        have b4 : w5.cell? ⟨q, 4, none⟩ = some (.slice B3 t.l.length Bc3) := (cell_of_row w5 q 4 _ _ _ hq5).trans rfl
        clear hp5 hq5 hb5
        go_wp2_with fail
        go_loopw [8] (fun iv wx => ∃ i : Nat, iv = .int .i64 (i : Int) ∧ i ≤ t.l.length ∧ Hid (Below w5.heap.size w5 wx)) (fun iv _ => t.l.length - (intOf iv).toNat)
        case atStart => exact ⟨0, by go_num, Nat.zero_le _, Lib.hid (Below.refl _ _)⟩
        case round =>
          clear a4 b4
          obtain ⟨i, rfl, hi, HB6⟩ := hrel
          have hp6 := (HB6.out.block p (blk_lt HP5.out)).trans HP5.out
          have hq6 := (HB6.out.block q (blk_lt HQ5.out)).trans HQ5.out
          have a4 : wr.cell? ⟨p, 4, none⟩ = some (.slice A3 t.l.length Ac3) := (cell_of_row _ p 4 _ _ _ hp6).trans rfl
          have b4 : wr.cell? ⟨q, 4, none⟩ = some (.slice B3 t.l.length Bc3) := (cell_of_row _ q 4 _ _ _ hq6).trans rfl
          clear hp6 hq6
          by_cases hil : i < t.l.length
          · obtain ⟨X, cx, ex, _, _, lx⟩ := IsCh.of_own I3.out
            injection ex with ex _ _
            subst ex
            obtain ⟨Y, cy, ey, _, _, ly⟩ := IsCh.of_own K3.out
            injection ey with ey _ _
            subst ey
            have hb56 : Below w.heap.size w wr := HB5.out.trans (HB6.out.mono HB5.out.size)
            obtain ⟨x1, y1, rfl, hx1, g1⟩ := lies_i64 (lx.below hb56) hil
            obtain ⟨x2, y2, rfl, hx2, g2⟩ := lies_i64 (ly.below hb56) hil
            obtain ⟨x, hx⟩ : ∃ x, x = t.l[i] := ⟨_, rfl⟩
            rw [← hx] at g1 g2
            have q5 : (x != x) = false := by simp
            clear hx lx ly hb56
            go_upto_region 12 with fail
            go_quiet (fail)
            go_wp2_with fail
            go_round
            case rel => exact ⟨i + 1, by go_num, hil, Lib.hid (HB6.out.trans ⟨rfl, rfl, rfl, Nat.le_refl _, fun _ _ => rfl⟩)⟩
            case measure => simp [intOf]; omega
          · have hme : i = t.l.length := by omega
            go_wp2_with fail
            go_round
            case rel => exact ⟨j + 1, by go_num, hlt, Lib.hid (HB5.out.trans (HB6.out.mono HB5.out.size))⟩
            case measure => simp [intOf]; omega
    · have hme : j = ts.length := by omega
      go_wp2_with fail
      go_ret
      exact ⟨rfl, HB.out⟩
end Go.Proofs.YtfiefglagknclaaGreatDoor

/-
  scrimlaw20.TokenCuts: the program's tokens are the document's.
-/
namespace Go.Proofs.YtfiefglagknclaaGreatDoor
open Go.RowKit
set_option maxHeartbeats 4000000
set_option maxRecDepth 100000
set_option linter.unusedVariables false

theorem tokenCuts_walk (s : ByteArray) (w : World) (hs : s.size ≤ maxLen) (_ : True) :
    Calls Tryz.prog 4 #[.string s] w fun e w' => e = .returned (.bool true) ∧ Below w.heap.size w w' := by
  have AW := Lib.hid (fun wx => awake20_any wx)
  have CUT := Lib.hid (fun (t : ByteArray) (h : t.size ≤ 10000) wx => tokCut_any t wx h)
  have RCU := Lib.hid (fun (t : ByteArray) (h : t.size ≤ 10000) wx => refCut_any t wx h)
  have hmax : (maxLen : Nat) = 9223372036854775807 := rfl
  go_enter Tryz.func4, Tryz.ntmps4
  go_upto_if 11 with fail
  go_cut [0] from 12 (fun x0 wx => wx = w ∧ ∃ t : ByteArray, x0 = .string t ∧ t.size ≤ 2100)
  case first =>
    by_cases hbig : 2100 < s.size
    · go_wp2_with fail
      go_meet
      refine ⟨rfl, _, rfl, ?_⟩
      rw [ByteArray.size_extract]
      omega
    · go_wp2_with fail
      go_meet
      exact ⟨rfl, s, rfl, by omega⟩
  case rest =>
    obtain ⟨hwx, t, rfl, ht⟩ := hcut
    rw [hwx]
    clear hwx
    have CT := Lib.hid (CUT.out t (by omega) w)
    have RC := Lib.hid (fun wx => RCU.out t (by omega) wx)
    have HSM := Lib.hid (Tk.cut_small t)
    obtain ⟨r, hr⟩ : ∃ r, r = Tk.cut t := ⟨_, rfl⟩
    rw [← hr] at CT RC HSM
    obtain ⟨ts, at_, er⟩ := r
    dsimp only at HSM
    have HSL : Hid (ts.length ≤ 2100) := Lib.hid (by have := HSM.out.1; omega)
    have HTL : Hid (∀ t ∈ ts, t.l.length ≤ 1000000) := Lib.hid (fun x hx => by have := (HSM.out.2 x hx).1; omega)
    clear hr HSM CUT RCU
    have q1 : ((at_ : Int) == (at_ : Int)) = true := beq_self_eq_true _
    have q2 : (er == er) = true := beq_self_eq_true _
    go_wp2_with fail
    refine CT.out.mono ?_
    rintro e w1 ⟨v, rfl, hts, hb1⟩
    have HTS : Hid (IsToks w1 w.heap.size v ts) := Lib.hid hts
    have HB1 := Lib.hid hb1
    clear hts hb1 CT
    dsimp only
    go_wp2_with fail
    refine (RC.out _).mono ?_
    rintro e w2 ⟨m, rfl, htm, hb2⟩
    have HTM : Hid (IsToksT 70 w2 w1.heap.size m ts) := Lib.hid htm
    have HB2 := Lib.hid hb2
    have TH := Lib.hid (theirs_any v ts w2 _ (HTS.out.below hb2) (by have := HSL.out; omega))
    clear htm hb2 RC
    dsimp only
    go_wp2_with fail
    refine TH.out.mono ?_
    rintro e w3 ⟨v3, rfl, ht3, hb3⟩
    have HB3 := Lib.hid hb3
    have SS := Lib.hid (sameToks_any v3 m ts w3 _ _ ht3 (HTM.out.below hb3) (by have := HSL.out; omega) HTL.out)
    clear ht3 hb3 TH
    go_wp2_with fail
    refine SS.out.mono ?_
    rintro e w4 ⟨rfl, hb4⟩
    have HB4 := Lib.hid hb4
    clear hb4 SS
    go_wp2_with fail
    refine (AW.out _).mono ?_
    rintro e w5 ⟨rfl, hb5⟩
    have HB5 := Lib.hid hb5
    clear hb5
    go_wp2_with fail
    go_ret
    have b1 : Below w.heap.size w w2 := HB1.out.trans (HB2.out.mono HB1.out.size)
    have b2 : Below w.heap.size w w3 := b1.trans (HB3.out.mono b1.size)
    have b3 : Below w.heap.size w w4 := b2.trans (HB4.out.mono b2.size)
    exact ⟨rfl, b3.trans (HB5.out.mono b3.size)⟩
end Go.Proofs.YtfiefglagknclaaGreatDoor
