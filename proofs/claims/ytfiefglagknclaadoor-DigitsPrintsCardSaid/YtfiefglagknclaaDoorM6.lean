/-
  Texts of this proof, joined (by wip/bin/bundle.py): BldLaid, NatTxt2, Dig6, Dig7, Dig8, Dig9, ArrMath, Arr, Same1.
-/
import Derived.Test.YtfiefglagknclaaDoorM5
import Derived.Shelf.Lay
import Derived.Shelf.Strings.BuilderK
import Derived.Test.YtfiefglagknclaaDoorProg
import Derived.Deep.QuietTactic
import Derived.BigQuiet
import Derived.IntWalk
import Derived.LoopTactic
import Derived.Outline
/-
  The library's contract of (*strings.Builder).WriteString, laid by hand: 'shelf_lay' did not find the string type in the bodies that it goes by.
-/
namespace Go.Proofs
open Go.Shelf
def YtfiefglagknclaaDoorRen : Go.Shelf.Ren := ⟨fun | 166 => 57 | 240 => 92 | 276 => 127 | n => n, fun | 70 => 93 | 3 => 3 | 0 => 0 | 4 => 4 | 9 => 9 | 20 => 20 | 72 => 96 | 37 => 94 | 164 => 164 | 5 => 5 | 75 => 99 | 80 => 102 | n => n, fun | n => n⟩
theorem YtfiefglagknclaaDoorLaid : Go.Proofs.Lays.n166 Tryd.prog YtfiefglagknclaaDoorRen := {
  mixed := by kernel_rfl
  f166 := Tryd.func57.trans (congrArg some (by kernel_rfl))
  f240 := Tryd.func92.trans (congrArg some (by kernel_rfl))
  f276 := Tryd.func127.trans (congrArg some (by kernel_rfl))
  t0 := Tryd.underlying0
  a0 := Tryd.isAgg0
  z0 := Tryd.sizeOf0
  v0 := Tryd.zeroValue0
  t3 := Tryd.underlying3
  a3 := Tryd.isAgg3
  z3 := Tryd.sizeOf3
  v3 := Tryd.zeroValue3
  t4 := Tryd.underlying4
  a4 := Tryd.isAgg4
  z4 := Tryd.sizeOf4
  v4 := Tryd.zeroValue4
  t9 := Tryd.underlying9
  a9 := Tryd.isAgg9
  z9 := Tryd.sizeOf9
  v9 := Tryd.zeroValue9
  t20 := Tryd.underlying20
  a20 := Tryd.isAgg20
  z20 := Tryd.sizeOf20
  v20 := Tryd.zeroValue20
  t37 := Tryd.underlying94
  a37 := Tryd.isAgg94
  z37 := Tryd.sizeOf94
  v37 := Tryd.zeroValue94
  t70 := Tryd.underlying93
  a70 := Tryd.isAgg93
  z70 := Tryd.sizeOf93
  v70 := Tryd.zeroValue93
  t72 := Tryd.underlying96
  a72 := Tryd.isAgg96
  z72 := Tryd.sizeOf96
  v72 := Tryd.zeroValue96
  t75 := Tryd.underlying99
  a75 := Tryd.isAgg99
  z75 := Tryd.sizeOf99
  v75 := Tryd.zeroValue99
  t164 := Tryd.underlying164
  a164 := Tryd.isAgg164
  z164 := Tryd.sizeOf164
  v164 := Tryd.zeroValue164 }
theorem YtfiefglagknclaaDoorExtra : Builder.Extra Tryd.prog YtfiefglagknclaaDoorRen := {
  sizeBuilder := by kernel_rfl
  liesBuilder := by kernel_rfl
  t5 := Tryd.underlying5
  a5 := Tryd.isAgg5
  z5 := Tryd.sizeOf5
  v5 := Tryd.zeroValue5
  infoByte := by kernel_rfl
  cellsByte := by kernel_rfl
  sizeByte := by kernel_rfl
  neB5 := by decide }
namespace YtfiefglagknclaaDoor
open Go.RowKit
theorem writeString_any (B b : Nat) (bs : List Value) (s : ByteArray) (w : World) (h : Lib.IsBuilder 96 5 B b bs w) (hlen : bs.length + s.size ≤ 140737488355328) (hBw : B ≤ w.heap.size) :
    Calls Tryd.prog 57 #[.pointer (some ⟨b, 0, none⟩), .string s] w fun e w' => e = .returned (.tuple #[.int .i64 s.size, .nilIface]) ∧ (Lib.BuilderAt 96 5 B b (.pointer (some ⟨b, 0, none⟩)) (bs ++ Lib.strCells s) w' ∧ Below B w w') := Any.Builder_WriteString YtfiefglagknclaaDoorLaid YtfiefglagknclaaDoorExtra B b bs s w h hlen hBw
end YtfiefglagknclaaDoor
end Go.Proofs

/-
  What nat.Text computes.
-/
namespace Go.Proofs.YtfiefglagknclaaDoor
open Go.RowKit
set_option maxHeartbeats 1000000
set_option maxRecDepth 100000
set_option linter.unusedVariables false

theorem own_keep {w w' : World} {base n : Nat} {t : TypeId} {v : Value} {xs : List Value} (h : w.ownsRow base t 1 v n xs) (hk : ∀ g, base ≤ g → g < w.heap.size → w'.heap[g]? = w.heap[g]?) : w'.ownsRow base t 1 v n xs := by
  refine ⟨h.1, ?_⟩
  rcases h.2 with h2 | ⟨g, cap, cur, hv, hb, hg, hr⟩
  · exact .inl h2
  · refine .inr ⟨g, cap, cur, hv, hb, ?_, hr⟩
    rw [hk g hb (by
      rcases Nat.lt_or_ge g w.heap.size with h' | h'
      · exact h'
      · rw [Array.getElem?_eq_none h'] at hg; cases hg)]
    exact hg
theorem builder_below {w w' : World} {T e : TypeId} {B b : Nat} {bs : List Value} (h : Lib.IsBuilder T e B b bs w) (hb : Below w.heap.size w w') : Lib.IsBuilder T e B b bs w' := by
  have one : ∀ {p : Value}, Lib.BuilderAt T e B b p bs w → Lib.BuilderAt T e B b p bs w' := fun {p} k => by
    have hlt := k.lt
    obtain ⟨h1, v, h2, h3, h4⟩ := k
    exact ⟨h1, v, (hb.block b hlt).trans h2, own_keep h3 (fun g _ hg => hb.block g hg), h4⟩
  exact h.imp one one
theorem tabIs_below {P : Program} {w w' : World} {name : String} {k : IntKind} {zs : List Int} {B : Nat} (h : Lib.TabIs P w name k zs) (hb : Below B w w') (hg : ∀ g, P.globalNamed name = some g → g < B) : Lib.TabIs P w' name k zs := by
  unfold Lib.TabIs World.var? at *
  cases he : P.globalNamed name with
  | none => simp [he] at h
  | some g =>
    simp only [he, Option.bind_some] at h ⊢
    rw [hb.block g (hg g he)]
    exact h
def sliceLen : Value → Nat
  | .slice _ n _ => n
  | _ => 0
def grps (v i : Nat) : List Nat := (List.range i).map (Ten.grp v)
theorem grps_len (v i : Nat) : (grps v i).length = i := by simp [grps]
theorem grps_next (v i : Nat) : grps v (i + 1) = grps v i ++ [Ten.grp v i] := by simp [grps, List.range_succ]
theorem grps_at {v i j : Nat} (h : j < i) : (grps v i)[j]? = some (Ten.grp v j) := by
  rw [grps, List.getElem?_map, List.getElem?_range h]; rfl
theorem rounds_top (k : Nat) {v i : Nat} (hv : v < topE k) (h : 0 < v / 1000000000 ^ i) : 9 * i < 10 * (k + 1) := by
  rcases Nat.lt_or_ge (9 * i) (10 * (k + 1)) with h' | h'
  · exact h'
  · exfalso
    have h1 : (10 : Nat) ^ (10 * (k + 1)) ≤ 10 ^ (9 * i) := Nat.pow_le_pow_right (by omega) h'
    rw [Nat.pow_mul 10 9 i] at h1
    rw [Nat.div_eq_of_lt (Nat.lt_of_lt_of_le hv h1)] at h
    omega
theorem rounds_le {v i : Nat} (hv : v < topE 999) (h : 0 < v / 1000000000 ^ i) : i < 1112 := by
  have := rounds_top 999 hv h
  omega
theorem val_bound {l : List Nat} (ho : Nt.Ok l) (hs : l.length ≤ 1000) : Nt.val l < topE 999 := val_top 999 ho hs
theorem dec_short {m n : Nat} (h : m ≤ n) (hn : n < topE 999) : (Lib.decDigits m).length ≤ 10000 := dec_top 999 (Nat.lt_of_le_of_lt h hn)
theorem rep_eq : ∀ c, Lib.repeatL [48] c = List.replicate c 48
  | 0 => rfl
  | c + 1 => by rw [Lib.repeatL, rep_eq c, List.replicate_succ]; rfl
theorem div_pos_of {n i j : Nat} (h : 0 < n / 1000000000 ^ j) (hij : i ≤ j) : 0 < n / 1000000000 ^ i :=
  Nat.lt_of_lt_of_le h (Nat.div_le_div_left (Nat.pow_le_pow_right (by omega) hij) (Nat.pow_pos (by omega)))

theorem text_any (A : Option Addr) (c B : Nat) (l : List Nat) (w : World) (hl : Lies w B A (U l)) (hB : B ≤ w.heap.size) (ho : Nt.Ok l) (hc : l.length ≤ c) (hm : c ≤ 9223372036854775807) (hs : l.length ≤ 1000)
    (htab : Lib.TabIs Tryd.prog w "internal/strconv.uint64pow10" .u64 Lib.pow10Tab) (hg : ∀ g, Tryd.prog.globalNamed "internal/strconv.uint64pow10" = some g → g < w.heap.size) :
    Calls Tryd.prog 27 #[.slice A l.length c] w fun e w' => e = .returned (.string ⟨(Lib.decDigits (Nt.val l)).toArray⟩) ∧ Below w.heap.size w w' := by
  obtain ⟨i0, hi, hz0, hz1, hz2⟩ := info_parts u32_info
  have hdl := Nt.digs_len_le ho
  have hlen := dec_bound ho hs
  have hvb := Lib.hid (val_bound ho hs)
  have RN := Lib.hid (norm_any A c B l w hl hB ho hc hm (by omega))
  have HTAB := Lib.hid htab
  have HG := Lib.hid hg
  clear hl ho htab hg
  generalize Nt.val l = n at *
  go_enter Tryd.func27, Tryd.ntmps27
  go_wp2_with fail
  refine RN.out.mono ?_
  rintro e w1 ⟨rfl, hblk1, hb1⟩
  by_cases h0 : n = 0
  · subst h0
    rw [Nt.digs_zero]
    clear RN
    have HZ : Hid (Lib.decDigits 0 = [48]) := Lib.hid (Ten.dec_small (by omega))
    go_wp2_with fail
    go_ret
    rw [HZ.out]
    exact ⟨rfl, hb1⟩
  · have hne : (Nt.digs n).length ≠ 0 := fun e => h0 (Nt.digs_nil_iff.1 (List.eq_nil_of_length_eq_zero e))
    have hne2 : (((Nt.digs n).length : Int) == 0) = false := by rw [beq_eq_false_iff_ne]; omega
    clear RN
    have hsz1 := hblk1.lt
    go_wp2_with (at_make; refine wpList_make_blk _ rfl _ _ 22 rfl 70 i0 (.int .u32 0) Tryd.underlying22 hi hz0 hz1 rfl .i64 .i64 _ _ 0 ((Nt.digs n).length + (Nt.digs n).length / 8 + 1) rfl rfl rfl (by go_num) (by omega) (by rw [hz2]; omega) (by omega) w.heap.size w hb1 (by omega) ?_; intro w2 hblk2 hb2 hb2' hlt2)
    have hown2 : w2.ownsRow (w.heap.size + 1) 70 1 (.slice (some ⟨w1.heap.size, 0, none⟩) 0 ((Nt.digs n).length + (Nt.digs n).length / 8 + 1)) 0 [] := by
      have := hblk2.own (base := w.heap.size + 1) (n := 0) (by omega) (by omega) (by simp [maxLen]; omega)
      simpa using this
    have hblkG := hblk1.keep hb2' hsz1
    clear hblk1 hblk2 hb1 hb2' hlt2
    go_loopw [3, 4] (fun rv gv wr => ∃ (i y cc : Nat) (tl : List Value), i ≤ 1112 ∧ (Nt.digs y).length ≤ 1000 ∧ (Nt.digs y).length ≤ cc ∧ cc ≤ 1000 ∧ rv = .slice (some ⟨w.heap.size, 0, none⟩) (Nt.digs y).length cc ∧ Blk wr w.heap.size 70 (U (Nt.digs y) ++ tl) ∧ wr.ownsRow (w.heap.size + 1) 70 1 gv i (U (grps n i)) ∧ Below w.heap.size w wr ∧ Hid (y = n / 1000000000 ^ i ∧ (i = 0 ∨ 0 < n / 1000000000 ^ (i - 1)))) (fun _ gv _ => 1200 - sliceLen gv)
    case atStart => exact ⟨0, n, (Nt.digs n).length, [], by omega, by omega, Nat.le_refl _, by omega, rfl, by rw [List.append_nil]; exact hblkG, hown2, hb2, Lib.hid ⟨by simp, .inl rfl⟩⟩
    case round =>
      clear hown2 hblkG hb2 hne hne2
      obtain ⟨i, y, cc, tl, hi12, hyl, hycc, hcc, rfl, hblk, hown, hbel, H⟩ := hrel
      have hsz := hbel.size
      have hszG := hblk.lt
      obtain ⟨A2, C2, rfl, hC1, hC2⟩ := own_slice hown
      by_cases hy0 : y = 0
      · subst hy0
        rw [Nt.digs_zero]
        go_wp2_with fail
        have hip : 0 < i := by
          rcases Nat.eq_zero_or_pos i with e | e
          · have := H.out.1; rw [e] at this; simp at this; omega
          · exact e
        have HT0 : Hid (n / 1000000000 ^ i = 0 ∧ 0 < n / 1000000000 ^ (i - 1)) := Lib.hid ⟨H.out.1.symm, H.out.2.resolve_left (by omega)⟩
        have HLG := Lib.hid (Lies.of_own hown)
        have HTABW : Hid (∀ wq, Below wr.heap.size wr wq → Lib.TabIs Tryd.prog wq "internal/strconv.uint64pow10" .u64 Lib.pow10Tab) := Lib.hid (fun wq hq => tabIs_below (tabIs_below HTAB.out hbel HG.out) hq (fun g hg => Nat.lt_of_lt_of_le (HG.out g hg) hsz))
        have hbld0 : Lib.IsBuilder 96 5 wr.heap.size wr.heap.size (Lib.byteCells []) (wr.alloc (.cells #[.pointer none, .slice none 0 0] 96)) := .inl ⟨Nat.le_refl _, .slice none 0 0, heap_alloc_new wr _, World.ownsRow_nil _ _ _ _, by simp [Value.ownBlock]⟩
        have hbq0 : Below wr.heap.size wr (wr.alloc (.cells #[.pointer none, .slice none 0 0] 96)) := (Below.refl _ _).alloc (Nat.le_refl _) _
        clear hown hblk H
        rename World => W
        go_loopw [6] (fun iv wq => ∃ (k : Nat) (T : List UInt8), k ≤ i ∧ T.length ≤ 10000 ∧ iv = .int .i64 ((k : Int) - 1) ∧ Lib.IsBuilder 96 5 W.heap.size W.heap.size (Lib.byteCells T) wq ∧ Below W.heap.size W wq ∧ Hid ((k = i ∧ T = []) ∨ (k < i ∧ T = Lib.decDigits (n / 1000000000 ^ k)))) (fun iv _ => (intOf iv + 1).toNat)
        case atStart => exact ⟨i, [], Nat.le_refl _, by simp, rfl, hbld0, hbq0, Lib.hid (.inl ⟨rfl, rfl⟩)⟩
        case round =>
          clear hbld0 hbq0
          obtain ⟨k, T, hk, hTl, rfl, hbld, hbq, HK⟩ := hrel
          have hszq := hbq.size
          rcases k with _ | k
          · have HT : Hid (T = Lib.decDigits n) := Lib.hid (by
              rcases HK.out with ⟨e, _⟩ | ⟨_, e⟩
              · omega
              · rw [e, Nat.pow_zero, Nat.div_one])
            have BS := Lib.hid (Tryd.Builder_String_any W.heap.size W.heap.size T wr hbld hszq)
            clear hbld
            go_wp2_with (go_at_call 58; refine BS.out.mono ?_; rintro e w7 ⟨rfl, hb7⟩)
            go_ret
            rw [HT.out]
            exact ⟨rfl, hbel.trans ((hbq.trans hb7).mono hsz)⟩
          · have hk1 : ((k + 1 : Nat) : Int) - 1 = (k : Int) := by omega
            rw [hk1]
            clear hk1
            have hki : k < (grps n i).length := by rw [grps_len]; omega
            obtain ⟨b, off, rfl, hbb, hcell⟩ := (HLG.out.below hbq).limb hki
            have hget : (grps n i)[k] = Ten.grp n k := by
              have := grps_at (v := n) (show k < i by omega)
              rw [List.getElem?_eq_getElem hki] at this
              exact Option.some.inj this
            rw [hget] at hcell
            have hgl := Ten.grp_lt n k
            have HTOP : Hid (k + 1 = i → Lib.decDigits (Ten.grp n k) = Lib.decDigits (n / 1000000000 ^ k)) := Lib.hid (fun e => Ten.grp_top (by rw [e]; exact HT0.out.1))
            have HLOW : Hid (k + 1 < i → Lib.decDigits (n / 1000000000 ^ k) = Lib.decDigits (n / 1000000000 ^ (k + 1)) ++ (List.replicate (9 - (Lib.decDigits (Ten.grp n k)).length) 48 ++ Lib.decDigits (Ten.grp n k))) := Lib.hid (fun e => Ten.grp_low (div_pos_of HT0.out.2 (by omega)))
            have HSH : Hid ((Lib.decDigits (n / 1000000000 ^ k)).length ≤ 10000) := Lib.hid (dec_short (Nat.div_le_self _ _) hvb.out)
            have hD := Ten.dec_len (k := 8) (show Ten.grp n k < 10 ^ 9 by simpa using hgl)
            have FU := Lib.hid (formatUint_any (Ten.grp n k) wr (by omega) (HTABW.out wr hbq))
            generalize Ten.grp n k = gq at *
            obtain ⟨D, hDe⟩ : ∃ D, D = Lib.decDigits gq := ⟨_, rfl⟩
            rw [← hDe] at HTOP HLOW hD FU
            clear hDe hget hki
            by_cases hlow : k + 1 < i
            · have HTT : Hid (T ++ (List.replicate (9 - D.length) 48 ++ D) = Lib.decDigits (n / 1000000000 ^ k)) := Lib.hid (by
                rcases HK.out with ⟨e, _⟩ | ⟨_, e⟩
                · omega
                · rw [HLOW.out hlow, e])
              clear HTOP HLOW HK
              go_wp2_with fail
              refine FU.out.mono ?_
              rintro e w6 ⟨rfl, hb6⟩
              have hbld6 := builder_below hbld hb6
              have hbq6 : Below W.heap.size W w6 := hbq.trans (hb6.mono hszq)
              have hsz6 := hbq6.size
              clear hbld hb6
              go_wp2_with fail
              have HTL : Hid ((T ++ (List.replicate (9 - D.length) 48 ++ D)).length ≤ 10000) := Lib.hid (by rw [HTT.out]; exact HSH.out)
              have hci : (9 : Int) - (D.length : Int) = ((9 - D.length : Nat) : Int) := by omega
              rw [hci]
              have RP := Lib.hid (Tryd.strings_Repeat ⟨#[48]⟩ (9 - D.length) w6 (by omega) (by show 1 * (9 - D.length) ≤ _; omega))
              rw [show (⟨#[48]⟩ : ByteArray).data.toList = [48] from rfl, rep_eq] at RP
              obtain ⟨Z, hZ⟩ : ∃ Z, Z = List.replicate (9 - D.length) (48 : UInt8) := ⟨_, rfl⟩
              have hZl : Z.length ≤ 9 := by rw [hZ, List.length_replicate]; omega
              rw [← hZ] at RP HTL HTT
              clear hZ hci
              refine RP.out.mono ?_
              rintro e w8 ⟨rfl, hb8⟩
              have hbld8 := builder_below hbld6 hb8
              have hbq8 : Below W.heap.size W w8 := hbq6.trans (hb8.mono hsz6)
              have hsz8 := hbq8.size
              have WS1 := Lib.hid (writeString_any W.heap.size W.heap.size _ ⟨Z.toArray⟩ w8 hbld8 (by rw [Lib.byteCells_length]; show T.length + Z.length ≤ _; omega) hsz8)
              clear hbld6 hb8 hbld8
              go_wp2_with fail
              refine WS1.out.mono ?_
              rintro e w9 ⟨rfl, hbd9, hb9⟩
              have hbld9 : Lib.IsBuilder 96 5 W.heap.size W.heap.size (Lib.byteCells (T ++ Z)) w9 := .inr (by rw [Lib.byteCells_append]; exact hbd9)
              have hbq9 : Below W.heap.size W w9 := hbq8.trans hb9
              have hsz9 := hbq9.size
              have WS2 := Lib.hid (writeString_any W.heap.size W.heap.size _ ⟨D.toArray⟩ w9 hbld9 (by rw [Lib.byteCells_length, List.length_append]; show T.length + Z.length + D.length ≤ _; omega) hsz9)
              clear hbd9 hb9 hbld9
              go_wp2_with (go_at_call 57; refine WS2.out.mono ?_; rintro e w7 ⟨rfl, hbd7, hb7⟩)
              go_roundw
              case rel => exact ⟨_, _, _, _, _, _, _, _, _, _, _, _, _, _, _, _, _, _, _, _, _, _, _, _, ⟨k, T ++ (Z ++ D), by omega, HTL.out, by go_num, .inr (by rw [← List.append_assoc, Lib.byteCells_append]; exact hbd7), hbq9.trans hb7, Lib.hid (.inr ⟨by omega, HTT.out⟩)⟩, rfl⟩
              case measure => first | (simp [intOf]; done) | (simp [intOf]; omega)
            · have HTT : Hid (T ++ D = Lib.decDigits (n / 1000000000 ^ k)) := Lib.hid (by
                rcases HK.out with ⟨_, e⟩ | ⟨h, _⟩
                · rw [e, List.nil_append]; exact HTOP.out (by omega)
                · omega)
              have HTL : Hid ((T ++ D).length ≤ 10000) := Lib.hid (by rw [HTT.out]; exact HSH.out)
              clear HTOP HLOW HK
              go_wp2_with fail
              refine FU.out.mono ?_
              rintro e w6 ⟨rfl, hb6⟩
              have hbld6 := builder_below hbld hb6
              have hbq6 : Below W.heap.size W w6 := hbq.trans (hb6.mono hszq)
              have hsz6 := hbq6.size
              have WS := Lib.hid (writeString_any W.heap.size W.heap.size _ ⟨D.toArray⟩ w6 hbld6 (by rw [Lib.byteCells_length]; show T.length + D.length ≤ _; omega) hsz6)
              clear hbld hb6 hbld6
              go_wp2_with (go_at_call 57; refine WS.out.mono ?_; rintro e w7 ⟨rfl, hbd7, hb7⟩)
              go_roundw
              case rel => exact ⟨_, _, _, _, _, _, _, _, _, _, _, _, _, _, _, _, _, _, _, _, _, _, _, _, ⟨k, T ++ D, by omega, HTL.out, by go_num, .inr (by rw [Lib.byteCells_append]; exact hbd7), hbq6.trans hb7, Lib.hid (.inr ⟨by omega, HTT.out⟩)⟩, rfl⟩
              case measure => first | (simp [intOf]; done) | (simp [intOf]; omega)
      · have hypos : 0 < (Nt.digs y).length := Nat.pos_of_ne_zero (fun e => hy0 (Nt.digs_nil_iff.1 (List.eq_nil_of_length_eq_zero e)))
        have hi2 : i < 1112 := rounds_le hvb.out (by rw [← H.out.1]; omega)
        have SH := Lib.hid (shorten_any w.heap.size cc 1000000000 (Nt.digs y) tl wr hblk (Nt.ok_digs y) (by omega) (by omega) (by omega))
        rw [Nt.val_digs] at SH
        have HGR : Hid (y % 1000000000 = Ten.grp n i) := Lib.hid (by rw [H.out.1]; rfl)
        rw [HGR.out] at SH
        have hgl := Ten.grp_lt n i
        have HNX : Hid (y / 1000000000 = n / 1000000000 ^ (i + 1) ∧ (i + 1 = 0 ∨ 0 < n / 1000000000 ^ (i + 1 - 1))) := Lib.hid ⟨by rw [H.out.1, Ten.div_next], .inr (by rw [Nat.add_sub_cancel, ← H.out.1]; omega)⟩
        have HLQ : Hid ((Nt.digs (y / 1000000000)).length ≤ 1000) := Lib.hid (Nat.le_trans (Nt.digs_len_le_of (Nat.div_le_self y _)) hyl)
        obtain ⟨gq, hgq⟩ : ∃ gq, gq = Ten.grp n i := ⟨_, rfl⟩
        have HNG : Hid (grps n (i + 1) = grps n i ++ [gq]) := Lib.hid (by rw [hgq]; exact grps_next n i)
        rw [← hgq] at SH hgl
        clear hgq hblk HGR
        go_wp2_with fail
        refine SH.out.mono ?_
        rintro e w3 ⟨cur, rfl, hblk3, HC, hgr3⟩
        have hbel3 : Below w.heap.size w w3 := hbel.grown hgr3 hsz (fun k hk => by injection hk with hk; omega)
        have hown3 : w3.ownsRow (w.heap.size + 1) 70 1 (.slice A2 i C2) i (U (grps n i)) := own_keep hown (fun g hg hgs => hgr3.block g hgs (by intro e; injection e with e; omega))
        have hsz3 := hbel3.size
        have hlt3 := hblk3.lt
        clear hown hgr3
        go_wp2_with (at_builtin; refine wpList_append_own _ rfl _ _ 22 rfl (w.heap.size + 1) 70 i0 (.int .u32 0) 1 4 Tryd.underlying22 hi hz0 hz1 hz2 rfl (by decide) _ _ _ rfl (hown3.alloc _) ⟨_, 0, none⟩ 1 1 [.int .u32 (gq : Int)] rfl rfl (cell_one_new _ _ _) (by intro u hu; simp only [List.mem_singleton] at hu; subst hu; rfl) (by unfold maxLen; omega) (by omega) (by simp; omega) ?_; intro v4 w4 hown4 hgrow4 hnn4)
        have hb4 : Below w.heap.size w w4 := (hbel3.alloc hsz3 _).grown hgrow4 (by simp; omega) (fun k hk => by have := (hown3.lt k hk).1; omega)
        have hblk4 : Blk w4 w.heap.size 70 (U cur ++ tl) := (hblk3.alloc _).grown hgrow4 (by intro e; have := (hown3.lt _ e.symm).1; omega)
        have hcy : cur.length = (Nt.digs y).length := HC.out.1
        have hl4 : Lies w4 w4.heap.size (some ⟨w.heap.size, 0, none⟩) (U cur) := by
          have := (hblk4.lies).take cur.length
          rwa [List.take_append_of_le_length (by rw [U_len]; omega), List.take_of_length_le (by rw [U_len]; omega)] at this
        have TR := Lib.hid (trim_any (some ⟨w.heap.size, 0, none⟩) cc _ cur w4 hl4 HC.out.2.1 (by omega) (by omega))
        rw [HC.out.2.2, hcy] at TR
        have hblk5 : ∃ tl2, Blk w4 w.heap.size 70 (U (Nt.digs (y / 1000000000)) ++ tl2) := ⟨U (cur.drop (Nt.digs (Nt.val cur)).length) ++ tl, by
          have e : U cur = U (Nt.digs (y / 1000000000)) ++ U (cur.drop (Nt.digs (Nt.val cur)).length) := by
            have e0 : cur = Nt.digs (Nt.val cur) ++ cur.drop (Nt.digs (Nt.val cur)).length := by
              conv => lhs; rw [← List.take_append_drop (Nt.digs (Nt.val cur)).length cur, Nt.take_digs HC.out.2.1]
            have e1 := congrArg U e0
            rw [show U (Nt.digs (Nt.val cur) ++ cur.drop (Nt.digs (Nt.val cur)).length) = U (Nt.digs (Nt.val cur)) ++ U (cur.drop (Nt.digs (Nt.val cur)).length) from List.map_append] at e1
            rw [← HC.out.2.2]
            exact e1
          rw [← List.append_assoc, ← e]; exact hblk4⟩
        obtain ⟨tl2, hblk5⟩ := hblk5
        have hlq := HLQ.out
        clear hl4 hblk4 hblk3 HC HLQ hcy
        obtain ⟨A4, C4, rfl, hD1, hD2⟩ := own_slice hown4
        refine TR.out.mono ?_
        rintro e w5 ⟨rfl, rfl⟩
        go_wp2_with fail
        refine ⟨⟨i + 1, y / 1000000000, _, tl2, by omega, hlq, Nat.le_refl _, hlq, rfl, hblk5, ?_, hb4, HNX⟩, by simp [sliceLen]; omega⟩
        rw [HNG.out]
        simpa [U] using hown4
end Go.Proofs.YtfiefglagknclaaDoor

/-
  ratio.top, ratio.Int; scrimref04.IsWhole; digits.Print, scrimref05.Print.
-/
namespace Go.Proofs.YtfiefglagknclaaDoor
open Go.RowKit
set_option maxHeartbeats 2000000
set_option maxRecDepth 100000
set_option linter.unusedVariables false

theorem ratioTop_any (n : Bool) (v1 v2 : Value) (l1 l2 : List Nat) (w : World) (h1 : IsRes w v1 l1) (h2 : IsRes w v2 l2) :
    Calls Tryd.prog 61 #[.agg #[.bool n, v1, v2]] w (WholeOut w n l1) := by
  have HR := Lib.hid h1
  obtain ⟨A1, c1, rfl, -⟩ := h1
  obtain ⟨A2, c2, rfl, -⟩ := h2
  have HI2 : Hid (∀ (b : Bool) (A : Option Addr) (k c : Nat), (Tryd.prog.info? 58).map (·.size) = some (#[.bool b, .slice A k c] : Array Value).size) := Lib.hid (fun _ _ _ _ => whole2_info)
  have HG1 : Hid (∀ o1 o2, ((w.alloc o1).alloc o2).heap[w.heap.size + 1]? = some o2) := Lib.hid (fun o1 o2 => by
    have := heap_alloc_new (w.alloc o1) o2
    rwa [show (w.alloc o1).heap.size = w.heap.size + 1 by simp] at this)
  have HB : Hid (∀ o1 o2, Below w.heap.size w ((w.alloc o1).alloc o2)) := Lib.hid (fun o1 o2 => ((Below.refl _ _).alloc (Nat.le_refl _) _).alloc (by simp) _)
  generalize l2.length = k2 at *
  go_enter Tryd.func61, Tryd.ntmps61
  go_wp2_with (with_reducible refine wpList_store_row rfl 58 (.tmp 2) (.tmp 7) rfl (w.heap.size + 1) #[.bool n, .slice A1 l1.length c1] rfl rfl 58 #[.bool false, .slice none 0 0] (HG1.out _ _) (HI2.out _ _ _ _) rfl (two_one _ _ _ _) ?_)
  refine bodyPost_ret (results_cell_row (by rfl) _ _ (w.heap.size + 1) 58 #[.bool n, .slice A1 l1.length c1] (0, 0) _ (by rfl) (rheap_same (HG1.out _ _)) Tryd.underlying58 rfl (HI2.out _ _ _ _)) rfl ⟨.slice A1 l1.length c1, rfl, (HR.out.below (HB.out _ _)).setRow (HG1.out _ _) (two_no_int _ _ _ _) _, rBelow.setRow (HB.out _ _) (by omega) _⟩

/-- A number as a whole one, or none. -/
def IntOut (w : World) (n : Rt.Nm) (e : Ending) (w' : World) : Prop := ∃ u, e = .returned (.tuple #[.agg #[.bool (if n.bot = [1] then Rt.nrm n.neg (Nt.val n.top) else false), u], .bool (n.bot == [1])]) ∧ IsRes w' u (if n.bot = [1] then Nt.digs (Nt.val n.top) else []) ∧ Below w.heap.size w w'
theorem ratioInt_any (n : Bool) (v1 v2 : Value) (l1 l2 : List Nat) (w : World) (h1 : IsRes w v1 l1) (h2 : IsRes w v2 l2) (o1 : Nt.Ok l1) (s1 : l1.length ≤ 1000000) :
    Calls Tryd.prog 28 #[.agg #[.bool n, v1, v2]] w (IntOut w ⟨n, l1, l2⟩) := by
  have hb0 : ∀ o1 o2, Below w.heap.size w ((w.alloc o1).alloc o2) := fun o1 o2 => ((Below.refl _ _).alloc (Nat.le_refl _) _).alloc (by simp) _
  have I1 := Lib.hid (fun o1 o2 => isOne_any v2 l2 _ (h2.below (hb0 o1 o2)))
  have T1 := Lib.hid (fun o1 o2 => ratioTop_any n v1 v2 l1 l2 _ (h1.below (hb0 o1 o2)) (h2.below (hb0 o1 o2)))
  have NW := Lib.hid (fun (wx : World) (u : Value) (hu : IsRes wx u l1) => wholeNorm_any n u l1 wx hu o1 s1)
  have HI2 : Hid (∀ (b : Bool) (A : Option Addr) (k c : Nat), (Tryd.prog.info? 58).map (·.size) = some (#[.bool b, .slice A k c] : Array Value).size) := Lib.hid (fun _ _ _ _ => whole2_info)
  have HG1 : Hid (∀ o1 o2, ((w.alloc o1).alloc o2).heap[w.heap.size + 1]? = some o2) := Lib.hid (fun o1 o2 => by
    have := heap_alloc_new (w.alloc o1) o2
    rwa [show (w.alloc o1).heap.size = w.heap.size + 1 by simp] at this)
  have HB := Lib.hid hb0
  obtain ⟨A1, c1, rfl, -⟩ := h1
  obtain ⟨A2, c2, rfl, -⟩ := h2
  clear hb0 o1
  by_cases hone : l2 = [1]
  · have HE : Hid ((l2 == [1]) = true) := Lib.hid (by rw [hone]; rfl)
    have HO := Lib.hid hone
    have HP : Hid (∀ u w', IsRes w' u (Nt.digs (Nt.val l1)) → Below w.heap.size w w' → IntOut w ⟨n, l1, l2⟩ (.returned (.tuple #[.agg #[.bool (Rt.nrm n (Nt.val l1)), u], .bool true])) w') := Lib.hid (fun u w' hu hb => ⟨u, by simp only [HO.out, if_true]; rfl, by simp only [HO.out, if_true]; exact hu, hb⟩)
    have I1' := Lib.hid (fun o1 o2 => by have := I1.out o1 o2; rw [HE.out] at this; exact this)
    clear hone I1
    generalize l2.length = k2 at *
    go_enter Tryd.func28, Tryd.ntmps28
    go_wp2_with fail
    refine (I1'.out _ _).mono ?_
    rintro e w' ⟨rfl, rfl⟩
    go_wp2_with fail
    refine (T1.out _ _).mono ?_
    rintro e w2 ⟨v3, rfl, hr2, hb2⟩
    have NW2 := Lib.hid (NW.out w2 v3 hr2)
    have HG2 := Lib.hid ((hb2.block (w.heap.size + 1) (by simp)).trans (HG1.out _ _))
    have hbw2 := (HB.out _ _).trans (hb2.mono (HB.out _ _).size)
    clear hr2 hb2 T1 I1' NW
    go_wp2_with fail
    refine NW2.out.mono ?_
    rintro e w3 ⟨v4, rfl, hr3, hb3⟩
    have hl3 := blk_lt HG2.out
    have HG3 := Lib.hid ((hb3.block (w.heap.size + 1) hl3).trans HG2.out)
    have hbw3 := hbw2.trans (hb3.mono hbw2.size)
    have HR3 := Lib.hid (hr3.setRow HG3.out (two_no_int _ _ _ _) #[.bool (Rt.nrm n (Nt.val l1)), v4])
    obtain ⟨A3, c3, rfl, -⟩ := hr3
    clear hb3 NW2 hbw2
    go_wp2_with (with_reducible refine wpList_store_row rfl 58 (.tmp 2) (.tmp 11) rfl (w.heap.size + 1) #[.bool (Rt.nrm n (Nt.val l1)), .slice A3 (Nt.digs (Nt.val l1)).length c3] rfl rfl 58 #[.bool false, .slice none 0 0] HG3.out (HI2.out _ _ _ _) rfl (two_one _ _ _ _) ?_)
    refine bodyPost_ret (results_cell_row_tmp (by rfl) _ _ (w.heap.size + 1) 58 #[.bool (Rt.nrm n (Nt.val l1)), .slice A3 (Nt.digs (Nt.val l1)).length c3] (0, 0) _ _ (by rfl) (by rfl) (rheap_same HG3.out) Tryd.underlying58 rfl (HI2.out _ _ _ _)) rfl (HP.out _ _ HR3.out (rBelow.setRow hbw3 (by omega) _))
  · have HE : Hid ((l2 == [1]) = false) := Lib.hid (beq_eq_false_iff_ne.2 hone)
    have HO := Lib.hid hone
    have HP : Hid (∀ w', Below w.heap.size w w' → IntOut w ⟨n, l1, l2⟩ (.returned (.tuple #[.agg #[.bool false, .slice none 0 0], .bool false])) w') := Lib.hid (fun w' hb => ⟨.slice none 0 0, by simp only [HO.out, if_false, HE.out], by simp only [HO.out, if_false]; exact IsRes.none_ _, hb⟩)
    have I1' := Lib.hid (fun o1 o2 => by have := I1.out o1 o2; rw [HE.out] at this; exact this)
    clear hone I1
    generalize l2.length = k2 at *
    go_enter Tryd.func28, Tryd.ntmps28
    go_wp2_with fail
    refine (I1'.out _ _).mono ?_
    rintro e w' ⟨rfl, rfl⟩
    clear T1 NW
    go_wp2_with (with_reducible refine wpList_store_row rfl 58 (.tmp 2) (.tmp 8) rfl (w.heap.size + 1) #[.bool false, .slice none 0 0] rfl rfl 58 #[.bool false, .slice none 0 0] (HG1.out _ _) (HI2.out _ _ _ _) rfl (two_one _ _ _ _) ?_)
    refine bodyPost_ret (results_cell_row_tmp (by rfl) _ _ (w.heap.size + 1) 58 #[.bool false, .slice none 0 0] (0, 0) _ _ (by rfl) (by rfl) (rheap_same (HG1.out _ _)) Tryd.underlying58 rfl (HI2.out _ _ _ _)) rfl (HP.out _ (rBelow.setRow (HB.out _ _) (by omega) _))
end Go.Proofs.YtfiefglagknclaaDoor

/-
  digits.Print, scrimref05.Print: a number's text; scrimref04.IsWhole.
-/
namespace Go.Proofs.YtfiefglagknclaaDoor
open Go.RowKit
set_option maxHeartbeats 2000000
set_option maxRecDepth 100000
set_option linter.unusedVariables false

theorem isWhole_any (n : Bool) (v1 v2 : Value) (l1 l2 : List Nat) (w : World) (h1 : IsRes w v1 l1) (h2 : IsRes w v2 l2) :
    Calls Tryd.prog 35 #[.agg #[.bool n, v1, v2]] w fun e w' => e = .returned (.bool (l2 == [1])) ∧ Below w.heap.size w w' := by
  have HB : Hid (∀ o1, Below w.heap.size w (w.alloc o1)) := Lib.hid (fun o1 => (Below.refl _ _).alloc (Nat.le_refl _) _)
  obtain ⟨A1, c1, rfl, -⟩ := h1
  obtain ⟨A2, c2, rfl, k1, k2, k3, k4⟩ := h2
  by_cases hl : l2.length = 1
  · obtain ⟨x, rfl⟩ : ∃ x, l2 = [x] := by
      match l2, hl with
      | [x], _ => exact ⟨x, rfl⟩
    obtain ⟨b, off, rfl, hb, g0⟩ := k4.at_ (k := 0) (by simp [U])
    have g1 : w.cell? ⟨b, off, none⟩ = some (.int .u32 (x : Int)) := by simpa [U] using g0
    have HQ : Hid (([x] == [1]) = (x == 1)) := Lib.hid (by simp [List.cons_beq_cons])
    clear g0 k4 k3 hl
    by_cases hx : x = 1
    · subst hx
      go_enter Tryd.func35, Tryd.ntmps35
      go_wp2_with fail
      go_ret
      exact ⟨ret_bool (by rw [HQ.out]; rfl), HB.out _⟩
    · have q : ((x : Int) == 1) = false := beq_eq_false_iff_ne.2 (by omega)
      have HQ2 : Hid ((x == 1) = false) := Lib.hid (beq_eq_false_iff_ne.2 hx)
      clear hx
      go_enter Tryd.func35, Tryd.ntmps35
      go_wp2_with fail
      go_ret
      exact ⟨ret_bool (by rw [HQ.out, HQ2.out]), HB.out _⟩
  · have q : ((l2.length : Int) == 1) = false := beq_eq_false_iff_ne.2 (by omega)
    have HQ : Hid ((l2 == [1]) = false) := Lib.hid (by
      rw [beq_eq_false_iff_ne]; rintro rfl; exact hl rfl)
    clear hl k4 k3
    generalize l2.length = m at *
    go_enter Tryd.func35, Tryd.ntmps35
    go_wp2_with fail
    go_ret
    exact ⟨ret_bool (by rw [HQ.out]), HB.out _⟩

/-- The table of strconv's, in whatever world behind. -/
structure Pow10 (w : World) : Prop where
  tab : Lib.TabIs Tryd.prog w "internal/strconv.uint64pow10" .u64 Lib.pow10Tab
  lt : ∀ g, Tryd.prog.globalNamed "internal/strconv.uint64pow10" = some g → g < w.heap.size
theorem Pow10.below {w w' : World} (h : Pow10 w) (hb : Below w.heap.size w w') : Pow10 w' := ⟨tabIs_below h.tab hb h.lt, fun g e => Nat.lt_of_lt_of_le (h.lt g e) hb.size⟩
/-- A text is handed back. -/
def StrOut (w : World) (s : List UInt8) (e : Ending) (w' : World) : Prop := e = .returned (.string ⟨s.toArray⟩) ∧ Below w.heap.size w w'
theorem textR_any {w : World} {v : Value} {l : List Nat} (h : IsRes w v l) (ho : Nt.Ok l) (hs : l.length ≤ 1000) (hp : Pow10 w) :
    Calls Tryd.prog 27 #[v] w (StrOut w (Lib.decDigits (Nt.val l))) := by
  obtain ⟨A, c, rfl, k1, k2, k3, k4⟩ := h
  exact text_any A c w.heap.size l w k4 (Nat.le_refl _) ho k1 k2 hs hp.tab hp.lt
theorem refTextR_any {w : World} {v : Value} {l : List Nat} (h : IsRes w v l) (ho : Nt.Ok l) (hs : l.length ≤ 1000) :
    Calls Tryd.prog 34 #[v] w (StrOut w (Lib.decDigits (Nt.val l))) := by
  obtain ⟨A, c, rfl, k1, k2, k3, k4⟩ := h
  exact refText_any A c w.heap.size l w k4 (Nat.le_refl _) ho k1 k2 k3 hs
theorem ret_str {a b : ByteArray} (h : a.data.toList = b.data.toList) : Ending.returned (.string a) = .returned (.string b) := by
  have : a = b := ByteArray.ext (Array.toList_inj.1 h)
  rw [this]

/-- A number that may be, in memory. -/
structure NumR (w : World) (n : Rt.Nm) (v1 v2 : Value) : Prop where
  r1 : IsRes w v1 n.top
  r2 : IsRes w v2 n.bot
  o1 : Nt.Ok n.top
  o2 : Nt.Ok n.bot
  s1 : n.top.length ≤ 1000
  s2 : n.bot.length ≤ 1000
theorem NumR.below {w w' : World} {n : Rt.Nm} {v1 v2 : Value} (h : NumR w n v1 v2) (hb : Below w.heap.size w w') : NumR w' n v1 v2 := ⟨h.r1.below hb, h.r2.below hb, h.o1, h.o2, h.s1, h.s2⟩

theorem refPrint_any (n : Rt.Nm) (v1 v2 : Value) (w : World) (h : NumR w n v1 v2) :
    Calls Tryd.prog 12 #[.agg #[.bool n.neg, v1, v2]] w (StrOut w (Dg.print n)) := by
  have TX := Lib.hid (fun (wx : World) (hb : Below w.heap.size w wx) => refTextR_any (h.below hb).r1 h.o1 h.s1)
  have TY := Lib.hid (fun (wx : World) (hb : Below w.heap.size w wx) => refTextR_any (h.below hb).r2 h.o2 h.s2)
  have IW := Lib.hid (fun (wx : World) (hb : Below w.heap.size w wx) => isWhole_any n.neg v1 v2 n.top n.bot wx (h.below hb).r1 (h.below hb).r2)
  have HB : Hid (∀ o1, Below w.heap.size w (w.alloc o1)) := Lib.hid (fun o1 => (Below.refl _ _).alloc (Nat.le_refl _) _)
  have HP : Hid (Dg.print n = (if n.neg then [194, 175] else []) ++ (Lib.decDigits (Nt.val n.top) ++ if n.bot = [1] then [] else 114 :: Lib.decDigits (Nt.val n.bot))) := Lib.hid rfl
  have HI3 : Hid ((Tryd.prog.info? 24).map (·.size) = some (#[.bool n.neg, v1, v2] : Array Value).size) := Lib.hid num_info
  have hTl := dec_bound h.o1 h.s1
  have hBl := dec_bound h.o2 h.s2
  clear h
  obtain ⟨neg, top, bot⟩ := n
  dsimp only at TX TY IW HP HI3 hTl hBl ⊢
  generalize Dg.print ⟨neg, top, bot⟩ = R at *
  generalize Lib.decDigits (Nt.val top) = T at *
  generalize Lib.decDigits (Nt.val bot) = B at *
  go_enter Tryd.func12, Tryd.ntmps12
  go_wp2_with fail
  refine (TX.out _ (HB.out _)).mono ?_
  rintro e w2 ⟨rfl, hb2⟩
  have hbw2 := (HB.out (.cells #[.bool neg, v1, v2] 24)).trans (hb2.mono (HB.out _).size)
  have HG := Lib.hid ((hb2.block w.heap.size (by simp)).trans (heap_alloc_new w (.cells #[.bool neg, v1, v2] 24)))
  have hs2 := hb2.size
  have hlt : w.heap.size < w2.heap.size := by simp at hs2; omega
  clear hb2 hs2
  go_wp2_with (with_reducible refine wpList_load_row rfl 24 (.tmp 1) rfl w.heap.size rfl 24 #[.bool neg, v1, v2] (0, 0) _ HG.out Tryd.underlying24 rfl HI3.out ?_)
  refine (IW.out w2 hbw2).mono ?_
  rintro e w3 ⟨rfl, hb3⟩
  have hbw3 := hbw2.trans (hb3.mono hbw2.size)
  have HG3 := Lib.hid ((hb3.block w.heap.size hlt).trans HG.out)
  have hlt3 : w.heap.size < w3.heap.size := Nat.lt_of_lt_of_le hlt hb3.size
  clear hb3 hbw2 hlt
  have p0 : w3.cell? ⟨w.heap.size, 0, none⟩ = some (.bool neg) := (cell_of_row w3 w.heap.size 0 _ _ _ HG3.out).trans rfl
  have p2 : w3.cell? ⟨w.heap.size, 2, none⟩ = some v2 := (cell_of_row w3 w.heap.size 2 _ _ _ HG3.out).trans rfl
  by_cases hone : bot = [1]
  · have HO := Lib.hid hone
    have e1 : (bot == [1]) = true := by rw [hone]; rfl
    clear hone TX TY IW
    cases neg
    · go_wp2_with fail
      go_ret
      exact ⟨ret_str (by rw [HP.out, if_pos HO.out]; simp), hbw3⟩
    · go_wp2_with fail
      go_ret
      exact ⟨ret_str (by rw [HP.out, if_pos HO.out]; simp), hbw3⟩
  · have HO := Lib.hid hone
    have e1 : (bot == [1]) = false := beq_eq_false_iff_ne.2 hone
    clear hone TX IW
    have HTY := Lib.hid (TY.out w3 hbw3)
    clear TY
    go_wp2_with fail
    refine HTY.out.mono ?_
    rintro e w4 ⟨rfl, hb4⟩
    have hbw4 := hbw3.trans (hb4.mono hbw3.size)
    have p04 : w4.cell? ⟨w.heap.size, 0, none⟩ = some (.bool neg) := (hb4.cell (p := ⟨w.heap.size, 0, none⟩) hlt3).trans p0
    clear hb4 p0 p2 HTY hbw3
    cases neg
    · go_wp2_with fail
      go_ret
      exact ⟨ret_str (by rw [HP.out, if_neg HO.out]; simp), hbw4⟩
    · go_wp2_with fail
      go_ret
      exact ⟨ret_str (by rw [HP.out, if_neg HO.out]; simp), hbw4⟩

theorem digPrint_any (n : Rt.Nm) (v1 v2 : Value) (w : World) (h : NumR w n v1 v2) (hp : Pow10 w) :
    Calls Tryd.prog 10 #[.agg #[.bool n.neg, v1, v2]] w (StrOut w (Dg.print n)) := by
  have TX := Lib.hid (fun (wx : World) (hb : Below w.heap.size w wx) => textR_any (h.below hb).r1 h.o1 h.s1 (hp.below hb))
  have TY := Lib.hid (fun (wx : World) (hb : Below w.heap.size w wx) => textR_any (h.below hb).r2 h.o2 h.s2 (hp.below hb))
  have IW := Lib.hid (fun (wx : World) (hb : Below w.heap.size w wx) => ratioInt_any n.neg v1 v2 n.top n.bot wx (h.below hb).r1 (h.below hb).r2 h.o1 (by have := h.s1; omega))
  have HB : Hid (∀ o1, Below w.heap.size w (w.alloc o1)) := Lib.hid (fun o1 => (Below.refl _ _).alloc (Nat.le_refl _) _)
  have HP : Hid (Dg.print n = (if n.neg then [194, 175] else []) ++ (Lib.decDigits (Nt.val n.top) ++ if n.bot = [1] then [] else 114 :: Lib.decDigits (Nt.val n.bot))) := Lib.hid rfl
  have HI3 : Hid ((Tryd.prog.info? 24).map (·.size) = some (#[.bool n.neg, v1, v2] : Array Value).size) := Lib.hid num_info
  have HI2 : Hid (∀ (b : Bool) (A : Option Addr) (k c : Nat), (Tryd.prog.info? 58).map (·.size) = some (#[.bool b, .slice A k c] : Array Value).size) := Lib.hid (fun _ _ _ _ => whole2_info)
  have hTl := dec_bound h.o1 h.s1
  have hBl := dec_bound h.o2 h.s2
  clear h hp
  obtain ⟨neg, top, bot⟩ := n
  dsimp only at TX TY IW HP HI3 hTl hBl ⊢
  generalize Dg.print ⟨neg, top, bot⟩ = R at *
  generalize Lib.decDigits (Nt.val top) = T at *
  generalize Lib.decDigits (Nt.val bot) = B at *
  go_enter Tryd.func10, Tryd.ntmps10
  go_wp2_with fail
  refine (TX.out _ (HB.out _)).mono ?_
  rintro e w2 ⟨rfl, hb2⟩
  have hbw2 := (HB.out (.cells #[.bool neg, v1, v2] 24)).trans (hb2.mono (HB.out _).size)
  have HG := Lib.hid ((hb2.block w.heap.size (by simp)).trans (heap_alloc_new w (.cells #[.bool neg, v1, v2] 24)))
  have hs2 := hb2.size
  have hlt : w.heap.size < w2.heap.size := by simp at hs2; omega
  have p0 : w2.cell? ⟨w.heap.size, 0, none⟩ = some (.bool neg) := (cell_of_row w2 w.heap.size 0 _ _ _ HG.out).trans rfl
  clear hb2 hs2 TX
  obtain ⟨N, hN⟩ : ∃ N : List UInt8, N = if neg then [194, 175] else [] := ⟨_, rfl⟩
  rw [← hN] at HP
  have hN2 := Lib.hid hN
  clear hN
  cases neg
  all_goals
    go_wp2_with (with_reducible refine wpList_load_row rfl 24 (.tmp 1) rfl w.heap.size rfl 24 #[.bool _, v1, v2] (0, 0) _ HG.out Tryd.underlying24 rfl HI3.out ?_)
    refine (IW.out w2 hbw2).mono ?_
    rintro e w3 ⟨u, rfl, hu, hb3⟩
    dsimp only at hu
    have hbw3 := hbw2.trans (hb3.mono hbw2.size)
    have HG3 := Lib.hid ((hb3.block w.heap.size hlt).trans HG.out)
    have hlt3 : w.heap.size < w3.heap.size := Nat.lt_of_lt_of_le hlt hb3.size
    obtain ⟨A3, c3, rfl, -⟩ := hu
    clear hb3 hbw2 hlt p0
    have p2 : w3.cell? ⟨w.heap.size, 2, none⟩ = some v2 := (cell_of_row w3 w.heap.size 2 _ _ _ HG3.out).trans rfl
    have HG4 : Hid (∀ o, (w3.alloc o).heap[w3.heap.size]? = some o) := Lib.hid (fun o => heap_alloc_new w3 o)
    by_cases hone : bot = [1]
    · have HO := Lib.hid hone
      have e1 : (bot == [1]) = true := by rw [hone]; rfl
      simp only [e1, if_pos hone]
      clear hone TY IW e1
      go_wp2_with fail
      go_ret
      exact ⟨ret_str (by rw [HP.out, if_pos HO.out, hN2.out]; simp), hbw3.alloc hbw3.size _⟩
    · have HO := Lib.hid hone
      have e1 : (bot == [1]) = false := beq_eq_false_iff_ne.2 hone
      simp only [e1, if_neg hone]
      clear hone IW e1
      have HTY := Lib.hid (fun o => TY.out (w3.alloc o) (hbw3.alloc hbw3.size _))
      clear TY
      go_wp2_with fail
      refine (HTY.out _).mono ?_
      rintro e w4 ⟨rfl, hb4⟩
      have hbw4 := (hbw3.alloc hbw3.size (.cells #[.bool false, .slice A3 ([] : List Nat).length c3] 58)).trans (hb4.mono (by simp; omega))
      clear hb4 HTY hbw3 p2
      go_wp2_with fail
      go_ret
      exact ⟨ret_str (by rw [HP.out, if_neg HO.out, hN2.out]; simp), hbw4⟩
end Go.Proofs.YtfiefglagknclaaDoor

/-
  digits.Parse: the number of a text. (Printed by wip/bin/gen_dig8.py.)
-/
namespace Go.Proofs.YtfiefglagknclaaDoor
open Go.RowKit
set_option maxHeartbeats 4000000
set_option maxRecDepth 100000
set_option linter.unusedVariables false

theorem bDrewN {B : Nat} {w w' : World} (h : Below B w w') (n : Nat) : Below B w (w'.drewN n) := ⟨h.os, h.tape, h.output, h.size, h.block⟩
theorem parse_cut (s : List UInt8) : Dg.parse s = Dg.body (Lib.hasPrefix s [194, 175]) (Lib.trimPrefix s [194, 175]) := by
  unfold Lib.trimPrefix Lib.hasPrefix
  match s with
  | [] => rfl
  | [a] =>
    have h : List.isPrefixOf [194, 175] [a] = false := by simp [List.isPrefixOf]
    rw [h]
    unfold Dg.parse
    split
    · next h2 => cases h2
    · rfl
  | a :: b :: t =>
    by_cases h : a = 194 ∧ b = 175
    · obtain ⟨rfl, rfl⟩ := h
      rfl
    · have h2 : List.isPrefixOf [194, 175] (a :: b :: t) = false := by
        simp [List.isPrefixOf]
        intro e1 e2
        exact h ⟨e1.symm, e2.symm⟩
      rw [h2]
      unfold Dg.parse
      split
      · next h3 => injection h3 with e1 h3; injection h3 with e2 h3; exact absurd ⟨e1, e2⟩ h
      · rfl
theorem numOf_one : Ten.numOf [49] = 1 := rfl
theorem cut_len (s p : List UInt8) : (Lib.trimPrefix s p).length ≤ s.length := by
  unfold Lib.trimPrefix
  split
  · rw [List.length_drop]; omega
  · exact Nat.le_refl _
theorem lim_digs {t : List UInt8} (hd : ∀ b ∈ t, Ten.isDig b) (h : t.length ≤ 1000) : (Nt.digs (Ten.numOf t)).length ≤ 1000000 := by
  have := Dg.limbs_le hd 112 (by omega)
  omega
/-- The last statement's calls. -/
theorem makeOf_any (neg : Bool) (v1 v2 : Value) (a b : List UInt8) (w : World) (h1 : IsRes w v1 (Nt.digs (Ten.numOf a))) (h2 : IsRes w v2 (Nt.digs (Ten.numOf b))) (d1 : ∀ x ∈ a, Ten.isDig x) (d2 : ∀ x ∈ b, Ten.isDig x) (s1 : a.length ≤ 1000) (s2 : b.length ≤ 1000) :
    Calls Tryd.prog 32 #[.agg #[.bool neg, v1], .agg #[.bool false, v2]] w (MakeOut w (Rt.mk neg false (Ten.numOf a) (Ten.numOf b))) := by
  have := ratioMake_any neg false v1 v2 _ _ w h1 h2 (Nt.ok_digs _) (Nt.ok_digs _) (lim_digs d1 s1) (lim_digs d2 s2)
  rwa [Nt.val_digs, Nt.val_digs] at this

theorem digParse_any (s : List UInt8) (w : World) (hs : s.length ≤ 100000) :
    Calls Tryd.prog 11 #[.string ⟨s.toArray⟩] w (MakeOut w (Dg.parse s)) := by
  have CP := fun wx => Tryd.strings_CutPrefix ⟨s.toArray⟩ ⟨#[194, 175]⟩ wx
  rw [show (⟨s.toArray⟩ : ByteArray).data.toList = s from rfl, show (⟨#[194, 175]⟩ : ByteArray).data.toList = [194, 175] from rfl] at CP
  have hcl := cut_len s [194, 175]
  rw [parse_cut]
  have HI3 : Hid (∀ (b : Bool) (A : Option Addr) (k c : Nat) (A' : Option Addr) (k' c' : Nat), (Tryd.prog.info? 24).map (·.size) = some (#[.bool b, .slice A k c, .slice A' k' c'] : Array Value).size) := Lib.hid (fun _ _ _ _ _ _ _ => num_info)
  have HGA : Hid ((w.alloc (.cells #[.bool false, .slice none 0 0, .slice none 0 0] 24)).heap[w.heap.size]? = some (.cells #[.bool false, .slice none 0 0, .slice none 0 0] 24 (0, 0))) := Lib.hid (heap_alloc_new w _)
  have hb0 : Below w.heap.size w (w.alloc (.cells #[.bool false, .slice none 0 0, .slice none 0 0] 24)) := (Below.refl _ _).alloc (Nat.le_refl _) _
  generalize Lib.trimPrefix s [194, 175] = t at *
  generalize Lib.hasPrefix s [194, 175] = neg at *
  have HCP := Lib.hid CP
  have htl : t.length ≤ 100000 := by omega
  clear CP hcl
  obtain ⟨W, hW⟩ : ∃ W, W = w.alloc (.cells #[.bool false, .slice none 0 0, .slice none 0 0] 24) := ⟨_, rfl⟩
  rw [← hW] at HGA hb0
  have HW := Lib.hid hW
  clear hW
  have hsz : (⟨t.toArray⟩ : ByteArray).size = t.length := rfl
  have HSZ := Lib.hid hsz
  clear hsz
  go_enter Tryd.func11, Tryd.ntmps11
  go_wp2_with fail
  rw [← HW.out]
  refine (HCP.out _).mono ?_
  rintro e w' ⟨rfl, rfl⟩
  clear HCP
  by_cases h400 : 400 < t.length
  · have HE : Hid (400 < t.length) := Lib.hid h400
    go_wp2_with (with_reducible refine wpList_store_row rfl 24 (.tmp 2) (.tmp 18) rfl w.heap.size #[.bool false, .slice none 0 0, .slice none 0 0] rfl rfl 24 #[.bool false, .slice none 0 0, .slice none 0 0] HGA.out (HI3.out _ _ _ _ _ _ _) rfl (three_one _ _ _ _ _ _ _) ?_)
    refine bodyPost_ret (results_cell_row_tmp (by rfl) _ _ w.heap.size 24 #[.bool false, .slice none 0 0, .slice none 0 0] (0, 0) _ _ (by rfl) (by rfl) (rheap_same HGA.out) Tryd.underlying24 rfl (HI3.out _ _ _ _ _ _ _)) rfl (MakeOut.of (by unfold Dg.body; rw [if_pos HE.out]; rfl) rfl (isRes_nil _) (isRes_nil _) (rBelow.setRow hb0 (by omega) _))
  · have H400 : Hid (¬ 400 < t.length) := Lib.hid h400
    obtain ⟨n, hn⟩ : ∃ n, n = Dg.lead t := ⟨_, rfl⟩
    have LD := fun (wx : World) => leading_any t wx (by omega)
    have hll := Dg.lead_le t
    rw [← hn] at LD hll
    have LD := Lib.hid LD
    have HN := Lib.hid hn
    clear hn
    go_wp2_with fail
    refine (LD.out _).mono ?_
    rintro e w' ⟨rfl, rfl⟩
    clear LD
    by_cases hl0 : n = 0
    · have hz : ((n : Int) == 0) = true := by rw [hl0]; rfl
      have HE : Hid (Dg.lead t = 0) := Lib.hid (by rw [← HN.out]; exact hl0)
      clear hl0
      go_wp2_with (with_reducible refine wpList_store_row rfl 24 (.tmp 2) (.tmp 23) rfl w.heap.size #[.bool false, .slice none 0 0, .slice none 0 0] rfl rfl 24 #[.bool false, .slice none 0 0, .slice none 0 0] HGA.out (HI3.out _ _ _ _ _ _ _) rfl (three_one _ _ _ _ _ _ _) ?_)
      refine bodyPost_ret (results_cell_row_tmp (by rfl) _ _ w.heap.size 24 #[.bool false, .slice none 0 0, .slice none 0 0] (0, 0) _ _ (by rfl) (by rfl) (rheap_same HGA.out) Tryd.underlying24 rfl (HI3.out _ _ _ _ _ _ _)) rfl (MakeOut.of (by unfold Dg.body; rw [if_neg H400.out, if_pos HE.out]; rfl) rfl (isRes_nil _) (isRes_nil _) (rBelow.setRow hb0 (by omega) _))
    · have hz : ((n : Int) == 0) = false := beq_eq_false_iff_ne.2 (by omega)
      have HL0 : Hid (¬ Dg.lead t = 0) := Lib.hid (by rw [← HN.out]; exact hl0)
      by_cases hlt : n < t.length
      · obtain ⟨y, hy⟩ : ∃ y, y = t[n].toNat := ⟨_, rfl⟩
        have hgy : ((⟨t.toArray⟩ : ByteArray)[n]'(show n < (⟨t.toArray⟩ : ByteArray).size from hlt)).toNat = y := hy.symm
        have HY : Hid (y = (t.getD n 0).toNat) := Lib.hid (by rw [hy, List.getD_eq_getElem?_getD, List.getElem?_eq_getElem hlt]; rfl)
        clear hy
        obtain ⟨ov, hov⟩ : ∃ ov, ov = t.take n := ⟨_, rfl⟩
        obtain ⟨bh, hbh⟩ : ∃ bh, bh = t.drop (n + 1) := ⟨_, rfl⟩
        have hovl : ov.length = n := by rw [hov, List.length_take]; omega
        have hbhl : bh.length = t.length - (n + 1) := by rw [hbh, List.length_drop]
        have hovl2 : ov.length ≤ 400 := by omega
        have hbhl2 : bh.length ≤ 400 := by omega
        have SU : Hid ((⟨t.toArray⟩ : ByteArray).extract 0 n = ⟨ov.toArray⟩) := Lib.hid (by rw [str_upto t n (by omega), hov])
        have SF : Hid ((⟨t.toArray⟩ : ByteArray).extract (n + 1) t.length = ⟨bh.toArray⟩) := Lib.hid (by rw [str_from, hbh])
        have HOV : Hid (ov = t.take (Dg.lead t)) := Lib.hid (by rw [← HN.out]; exact hov)
        have HBH : Hid (bh = t.drop (Dg.lead t + 1)) := Lib.hid (by rw [← HN.out]; exact hbh)
        have HBL : Hid (bh.length = t.length - (Dg.lead t + 1)) := Lib.hid (by rw [← HN.out]; exact hbhl)
        have HNE : Hid (¬ Dg.lead t = t.length) := Lib.hid (by rw [← HN.out]; omega)
        have HO : Hid (ov.length ≤ 1000 ∧ ∀ b ∈ ov, Ten.isDig b) := Lib.hid ⟨by omega, by rw [HOV.out]; exact Dg.lead_take⟩
        have HEQ0 : Hid (Dg.body neg t = if bh.length = 0 ∨ Dg.lead bh < bh.length then (Rt.none_, 1) else if t.getD n 0 = 114 then Rt.mk neg false (Ten.numOf ov) (Ten.numOf bh) else if t.getD n 0 = 46 then Rt.mk neg false (Ten.numOf (ov ++ bh)) (10 ^ bh.length) else (Rt.none_, 1)) := Lib.hid (by
          unfold Dg.body
          rw [if_neg H400.out, if_neg HL0.out, if_neg HNE.out, ← HBL.out, ← HBH.out, ← HOV.out, ← HN.out]
          have e : (t.length = n + 1) = (bh.length = 0) := by rw [eq_iff_iff]; omega
          simp only [e])
        have hw1 : IntKind.i64.wrap ((n : Int) + 1) = (n : Int) + 1 := IntWalk.i64_in _ (by omega)
        have hw2 : (0 : Int) ≤ (n : Int) + 1 := by omega
        have hw3 : (n : Int) + 1 ≤ (t.length : Int) := by omega
        have hw4 : ((n : Int) + 1).toNat = n + 1 := by omega
        have hw5 : (0 : Int) ≤ (n : Int) := by omega
        have hw6 : (n : Int) < (t.length : Int) := by omega
        clear hov hbh hovl hbhl
        go_wp2_with fail
        go_quiet (fail)
        clear hw1 hw2 hw3 hw4 hw5 hw6
        simp only [SU.out, SF.out]
        have hbq : Below w.heap.size w (w'.drewN nq) := bDrewN hb0 nq
        have HGQ : Hid ((w'.drewN nq).heap[w.heap.size]? = some (.cells #[.bool false, .slice none 0 0, .slice none 0 0] 24 (0, 0))) := Lib.hid HGA.out
        generalize w'.drewN nq = wq at *
        by_cases hbe : bh = []
        · have hemp : bh.isEmpty = true := by rw [hbe]; rfl
          have HE : Hid (bh.length = 0) := Lib.hid (by rw [hbe]; rfl)
          subst hbe
          clear SU SF HGA hb0
          go_wp2_with (with_reducible refine wpList_store_row rfl 24 (.tmp 2) (.tmp 47) rfl w.heap.size #[.bool false, .slice none 0 0, .slice none 0 0] rfl rfl 24 #[.bool false, .slice none 0 0, .slice none 0 0] HGQ.out (HI3.out _ _ _ _ _ _ _) rfl (three_one _ _ _ _ _ _ _) ?_)
          refine bodyPost_ret (results_cell_row_tmp (by rfl) _ _ w.heap.size 24 #[.bool false, .slice none 0 0, .slice none 0 0] (0, 0) _ _ (by rfl) (by rfl) (rheap_same HGQ.out) Tryd.underlying24 rfl (HI3.out _ _ _ _ _ _ _)) rfl (MakeOut.of (by rw [HEQ0.out, if_pos (.inl HE.out)]; rfl) rfl (isRes_nil _) (isRes_nil _) (rBelow.setRow hbq (by omega) _))
        · have hemp : bh.isEmpty = false := by cases bh with | nil => exact absurd rfl hbe | cons a r => rfl
          have HBE : Hid (¬ bh.length = 0) := Lib.hid (by cases bh with | nil => exact absurd rfl hbe | cons a r => simp)
          have LB := Lib.hid (fun (wx : World) => leading_any bh wx (by omega))
          clear SU SF HGA hb0
          go_wp2_with fail
          refine (LB.out _).mono ?_
          rintro e w'' ⟨rfl, rfl⟩
          have hlb := Dg.lead_le bh
          by_cases hm : Dg.lead bh < bh.length
          · have HM := Lib.hid hm
            have g1 : decide (Dg.lead bh < bh.length) = true := decide_eq_true hm
            go_wp2_with (with_reducible refine wpList_store_row rfl 24 (.tmp 2) (.tmp 47) rfl w.heap.size #[.bool false, .slice none 0 0, .slice none 0 0] rfl rfl 24 #[.bool false, .slice none 0 0, .slice none 0 0] HGQ.out (HI3.out _ _ _ _ _ _ _) rfl (three_one _ _ _ _ _ _ _) ?_)
            refine bodyPost_ret (results_cell_row_tmp (by rfl) _ _ w.heap.size 24 #[.bool false, .slice none 0 0, .slice none 0 0] (0, 0) _ _ (by rfl) (by rfl) (rheap_same HGQ.out) Tryd.underlying24 rfl (HI3.out _ _ _ _ _ _ _)) rfl (MakeOut.of (by rw [HEQ0.out, if_pos (.inr HM.out)]; rfl) rfl (isRes_nil _) (isRes_nil _) (rBelow.setRow hbq (by omega) _))
          · have g1 : decide (Dg.lead bh < bh.length) = false := decide_eq_false hm
            have HM : Hid (¬ (bh.length = 0 ∨ Dg.lead bh < bh.length)) := Lib.hid (fun h => h.elim HBE.out hm)
            have HBD : Hid (∀ b ∈ bh, Ten.isDig b) := Lib.hid (Dg.lead_full (by omega))
            clear LB hlb
            have HY114 : Hid (y = 114 → t.getD n 0 = 114) := Lib.hid (fun h => UInt8.toNat_inj.1 (by rw [← HY.out, h]; rfl))
            have HY46 : Hid (y = 46 → t.getD n 0 = 46) := Lib.hid (fun h => UInt8.toNat_inj.1 (by rw [← HY.out, h]; rfl))
            have HYN : Hid (∀ b : UInt8, t.getD n 0 = b → y = b.toNat) := Lib.hid (fun b h => by rw [HY.out, h])
            by_cases h114 : y = 114
            · have HD := Lib.hid (HY114.out h114)
              have q114 : ((y : Int) == 114) = true := by rw [h114]; rfl
              have HU : Hid (bh.length ≤ 1000 ∧ ∀ b ∈ bh, Ten.isDig b) := Lib.hid ⟨by omega, HBD.out⟩
              clear h114
              have NO := Lib.hid (fun (wx : World) => number_any ov wx HO.out.1 HO.out.2)
              have NU := Lib.hid (fun (wx : World) => number_any bh wx HU.out.1 HU.out.2)
              go_wp2_with fail
              refine (NO.out _).mono ?_
              rintro e w2 ⟨v1, rfl, hr1, hb2⟩
              have HR1 := Lib.hid hr1
              have HG2 := Lib.hid ((hb2.block w.heap.size (blk_lt HGQ.out)).trans HGQ.out)
              have hbw2 := hbq.trans (hb2.mono hbq.size)
              obtain ⟨A1, c1, rfl, -⟩ := hr1
              go_wp2_with fail
              refine (NU.out _).mono ?_
              rintro e w3 ⟨v2, rfl, hr2, hb3⟩
              have MK := Lib.hid (makeOf_any neg _ _ ov bh w3 (HR1.out.below hb3) hr2 HO.out.2 HU.out.2 HO.out.1 HU.out.1)
              have HG3 := Lib.hid ((hb3.block w.heap.size (blk_lt HG2.out)).trans HG2.out)
              have hbw3 := hbw2.trans (hb3.mono hbw2.size)
              obtain ⟨A2, c2, rfl, -⟩ := hr2
              clear hb2 hb3 HG2 hbw2 HR1
              go_wp2_with fail
              refine MK.out.mono ?_
              rintro e w4 ⟨r1, r2, rfl, hr3, hr4, hb4⟩
              have HG4 := Lib.hid ((hb4.block w.heap.size (blk_lt HG3.out)).trans HG3.out)
              have hbw4 := hbw3.trans (hb4.mono hbw3.size)
              have HR3 := Lib.hid (hr3.setRow HG4.out (three_no_int _ _ _ _ _ _ _) #[.bool (Rt.mk neg false (Ten.numOf ov) (Ten.numOf bh)).1.neg, r1, r2])
              have HR4 := Lib.hid (hr4.setRow HG4.out (three_no_int _ _ _ _ _ _ _) #[.bool (Rt.mk neg false (Ten.numOf ov) (Ten.numOf bh)).1.neg, r1, r2])
              have HEQ := Lib.hid (show Dg.body neg t = Rt.mk neg false (Ten.numOf ov) (Ten.numOf bh) by rw [HEQ0.out, if_neg HM.out, if_pos HD.out])
              obtain ⟨A3, c3, rfl, -⟩ := hr3
              obtain ⟨A4, c4, rfl, -⟩ := hr4
              clear MK hb4 HG3 hbw3
              generalize Rt.mk neg false (Ten.numOf ov) (Ten.numOf bh) = R at *
              obtain ⟨⟨rn, rt, rb⟩, re⟩ := R
              dsimp only at HR3 HR4 HEQ ⊢
              go_wp2_with (with_reducible refine wpList_store_row rfl 24 (.tmp 2) (.tmp 71) rfl w.heap.size #[.bool rn, .slice A3 rt.length c3, .slice A4 rb.length c4] rfl rfl 24 #[.bool false, .slice none 0 0, .slice none 0 0] HG4.out (HI3.out _ _ _ _ _ _ _) rfl (three_one _ _ _ _ _ _ _) ?_)
              refine bodyPost_ret (results_cell_row_tmp (by rfl) _ _ w.heap.size 24 #[.bool rn, .slice A3 rt.length c3, .slice A4 rb.length c4] (0, 0) _ _ (by rfl) (by rfl) (rheap_same HG4.out) Tryd.underlying24 rfl (HI3.out _ _ _ _ _ _ _)) rfl (MakeOut.of HEQ.out rfl HR3.out HR4.out (rBelow.setRow hbw4 (by omega) _))
            · have q114 : ((y : Int) == 114) = false := beq_eq_false_iff_ne.2 (by omega)
              have HD1 : Hid (¬ t.getD n 0 = 114) := Lib.hid (fun h => h114 (HYN.out _ h))
              clear h114
              by_cases h46 : y = 46
              · have HD := Lib.hid (HY46.out h46)
                have q46 : ((y : Int) == 46) = true := by rw [h46]; rfl
                have RP := Tryd.strings_Repeat ⟨#[48]⟩ bh.length wq (by omega) (by show 1 * bh.length ≤ _; omega)
                rw [show (⟨#[48]⟩ : ByteArray).data.toList = [48] from rfl, rep_eq] at RP
                obtain ⟨ZR, hZR⟩ : ∃ ZR, ZR = List.replicate bh.length (48 : UInt8) := ⟨_, rfl⟩
                obtain ⟨o2, ho2⟩ : ∃ o2, o2 = ov ++ bh := ⟨_, rfl⟩
                obtain ⟨u2, hu2⟩ : ∃ u2, u2 = (49 : UInt8) :: ZR := ⟨_, rfl⟩
                rw [← hZR] at RP
                have hZl : ZR.length = bh.length := by rw [hZR, List.length_replicate]
                have hZl2 : ZR.length ≤ 400 := by omega
                have HN2 : Hid (Ten.numOf u2 = 10 ^ bh.length) := Lib.hid (by rw [hu2, hZR]; exact Dg.numOf_zeros _)
                have SO2 : Hid ((⟨ov.toArray⟩ : ByteArray) ++ ⟨bh.toArray⟩ = ⟨o2.toArray⟩) := Lib.hid (by apply ByteArray.ext; rw [ho2]; simp)
                have SU2 : Hid ((⟨#[49]⟩ : ByteArray) ++ ⟨ZR.toArray⟩ = ⟨u2.toArray⟩) := Lib.hid (by apply ByteArray.ext; rw [hu2]; simp)
                have HO2 : Hid (o2.length ≤ 1000 ∧ ∀ b ∈ o2, Ten.isDig b) := Lib.hid ⟨by rw [ho2, List.length_append]; omega, by
                  intro b hb; rw [ho2] at hb; rcases List.mem_append.1 hb with hb | hb
                  · exact HO.out.2 b hb
                  · exact HBD.out b hb⟩
                have HU : Hid (u2.length ≤ 1000 ∧ ∀ b ∈ u2, Ten.isDig b) := Lib.hid ⟨by rw [hu2, List.length_cons]; omega, by
                  intro b hb; rw [hu2, hZR] at hb; rcases List.mem_cons.1 hb with rfl | hb
                  · exact ⟨by decide, by decide⟩
                  · rw [List.eq_of_mem_replicate hb]; exact ⟨by decide, by decide⟩⟩
                have HEV : Hid (Dg.body neg t = Rt.mk neg false (Ten.numOf o2) (Ten.numOf u2)) := Lib.hid (by rw [HEQ0.out, if_neg HM.out, if_neg HD1.out, if_pos HD.out, HN2.out, ho2])
                have HRP := Lib.hid RP
                clear h46 hZR ho2 hu2 RP hZl HO
                have HO := HO2
                clear HO2
                go_wp2_with fail
                refine HRP.out.mono ?_
                rintro e w7 ⟨rfl, hb7⟩
                have HG7 := Lib.hid ((hb7.block w.heap.size (blk_lt HGQ.out)).trans HGQ.out)
                have hbw7 := hbq.trans (hb7.mono hbq.size)
                clear hb7 HRP hbq HGQ
                simp only [SO2.out]
                have NO := Lib.hid (fun (wx : World) => number_any o2 wx HO.out.1 HO.out.2)
                have NU := Lib.hid (fun (wx : World) => number_any u2 wx HU.out.1 HU.out.2)
                go_wp2_with fail
                simp only [SU2.out, SO2.out]
                refine (NO.out _).mono ?_
                rintro e w2 ⟨v1, rfl, hr1, hb2⟩
                have HR1 := Lib.hid hr1
                have HG2 := Lib.hid ((hb2.block w.heap.size (blk_lt HG7.out)).trans HG7.out)
                have hbw2 := hbw7.trans (hb2.mono hbw7.size)
                obtain ⟨A1, c1, rfl, -⟩ := hr1
                go_wp2_with fail
                refine (NU.out _).mono ?_
                rintro e w3 ⟨v2, rfl, hr2, hb3⟩
                have MK := Lib.hid (makeOf_any neg _ _ o2 u2 w3 (HR1.out.below hb3) hr2 HO.out.2 HU.out.2 HO.out.1 HU.out.1)
                have HG3 := Lib.hid ((hb3.block w.heap.size (blk_lt HG2.out)).trans HG2.out)
                have hbw3 := hbw2.trans (hb3.mono hbw2.size)
                obtain ⟨A2, c2, rfl, -⟩ := hr2
                clear hb2 hb3 HG2 hbw2 HR1
                go_wp2_with fail
                refine MK.out.mono ?_
                rintro e w4 ⟨r1, r2, rfl, hr3, hr4, hb4⟩
                have HG4 := Lib.hid ((hb4.block w.heap.size (blk_lt HG3.out)).trans HG3.out)
                have hbw4 := hbw3.trans (hb4.mono hbw3.size)
                have HR3 := Lib.hid (hr3.setRow HG4.out (three_no_int _ _ _ _ _ _ _) #[.bool (Rt.mk neg false (Ten.numOf o2) (Ten.numOf u2)).1.neg, r1, r2])
                have HR4 := Lib.hid (hr4.setRow HG4.out (three_no_int _ _ _ _ _ _ _) #[.bool (Rt.mk neg false (Ten.numOf o2) (Ten.numOf u2)).1.neg, r1, r2])
                have HEQ := Lib.hid (show Dg.body neg t = Rt.mk neg false (Ten.numOf o2) (Ten.numOf u2) by exact HEV.out)
                obtain ⟨A3, c3, rfl, -⟩ := hr3
                obtain ⟨A4, c4, rfl, -⟩ := hr4
                clear MK hb4 HG3 hbw3
                generalize Rt.mk neg false (Ten.numOf o2) (Ten.numOf u2) = R at *
                obtain ⟨⟨rn, rt, rb⟩, re⟩ := R
                dsimp only at HR3 HR4 HEQ ⊢
                go_wp2_with (with_reducible refine wpList_store_row rfl 24 (.tmp 2) (.tmp 71) rfl w.heap.size #[.bool rn, .slice A3 rt.length c3, .slice A4 rb.length c4] rfl rfl 24 #[.bool false, .slice none 0 0, .slice none 0 0] HG4.out (HI3.out _ _ _ _ _ _ _) rfl (three_one _ _ _ _ _ _ _) ?_)
                refine bodyPost_ret (results_cell_row_tmp (by rfl) _ _ w.heap.size 24 #[.bool rn, .slice A3 rt.length c3, .slice A4 rb.length c4] (0, 0) _ _ (by rfl) (by rfl) (rheap_same HG4.out) Tryd.underlying24 rfl (HI3.out _ _ _ _ _ _ _)) rfl (MakeOut.of HEQ.out rfl HR3.out HR4.out (rBelow.setRow hbw4 (by omega) _))
              · have q46 : ((y : Int) == 46) = false := beq_eq_false_iff_ne.2 (by omega)
                have HD2 : Hid (¬ t.getD n 0 = 46) := Lib.hid (fun h => h46 (HYN.out _ h))
                clear h46
                go_wp2_with (with_reducible refine wpList_store_row rfl 24 (.tmp 2) (.tmp 49) rfl w.heap.size #[.bool false, .slice none 0 0, .slice none 0 0] rfl rfl 24 #[.bool false, .slice none 0 0, .slice none 0 0] HGQ.out (HI3.out _ _ _ _ _ _ _) rfl (three_one _ _ _ _ _ _ _) ?_)
                refine bodyPost_ret (results_cell_row_tmp (by rfl) _ _ w.heap.size 24 #[.bool false, .slice none 0 0, .slice none 0 0] (0, 0) _ _ (by rfl) (by rfl) (rheap_same HGQ.out) Tryd.underlying24 rfl (HI3.out _ _ _ _ _ _ _)) rfl (MakeOut.of (by rw [HEQ0.out, if_neg HM.out, if_neg HD1.out, if_neg HD2.out]; rfl) rfl (isRes_nil _) (isRes_nil _) (rBelow.setRow hbq (by omega) _))
      · have HO : Hid (t.length ≤ 1000 ∧ ∀ b ∈ t, Ten.isDig b) := Lib.hid ⟨by omega, Dg.lead_full (by rw [← HN.out]; omega)⟩
        have HU : Hid (([49] : List UInt8).length ≤ 1000 ∧ ∀ b ∈ ([49] : List UInt8), Ten.isDig b) := Lib.hid ⟨by decide, by intro b hb; rw [List.mem_singleton] at hb; subst hb; exact ⟨by decide, by decide⟩⟩
        have HLE : Hid (n = t.length) := Lib.hid (by omega)
        have hst : (⟨t.toArray⟩ : ByteArray).extract 0 n = ⟨t.toArray⟩ := by rw [str_upto t n (by omega), HLE.out, List.take_length]
        have HST := Lib.hid hst
        clear hst
        go_wp2_with fail
        rw [HST.out]
        have NO := Lib.hid (fun (wx : World) => number_any t wx HO.out.1 HO.out.2)
        have NU := Lib.hid (fun (wx : World) => number_any [49] wx HU.out.1 HU.out.2)
        go_wp2_with fail
        refine (NO.out _).mono ?_
        rintro e w2 ⟨v1, rfl, hr1, hb2⟩
        have HR1 := Lib.hid hr1
        have HG2 := Lib.hid ((hb2.block w.heap.size (blk_lt HGA.out)).trans HGA.out)
        have hbw2 := hb0.trans (hb2.mono hb0.size)
        obtain ⟨A1, c1, rfl, -⟩ := hr1
        go_wp2_with fail
        refine (NU.out _).mono ?_
        rintro e w3 ⟨v2, rfl, hr2, hb3⟩
        have MK := Lib.hid (makeOf_any neg _ _ t [49] w3 (HR1.out.below hb3) hr2 HO.out.2 HU.out.2 HO.out.1 HU.out.1)
        have HG3 := Lib.hid ((hb3.block w.heap.size (blk_lt HG2.out)).trans HG2.out)
        have hbw3 := hbw2.trans (hb3.mono hbw2.size)
        obtain ⟨A2, c2, rfl, -⟩ := hr2
        clear hb2 hb3 HG2 hbw2 HR1
        go_wp2_with fail
        refine MK.out.mono ?_
        rintro e w4 ⟨r1, r2, rfl, hr3, hr4, hb4⟩
        have HG4 := Lib.hid ((hb4.block w.heap.size (blk_lt HG3.out)).trans HG3.out)
        have hbw4 := hbw3.trans (hb4.mono hbw3.size)
        have HR3 := Lib.hid (hr3.setRow HG4.out (three_no_int _ _ _ _ _ _ _) #[.bool (Rt.mk neg false (Ten.numOf t) (Ten.numOf [49])).1.neg, r1, r2])
        have HR4 := Lib.hid (hr4.setRow HG4.out (three_no_int _ _ _ _ _ _ _) #[.bool (Rt.mk neg false (Ten.numOf t) (Ten.numOf [49])).1.neg, r1, r2])
        have HEQ := Lib.hid (show Dg.body neg t = Rt.mk neg false (Ten.numOf t) (Ten.numOf [49]) by unfold Dg.body; rw [if_neg H400.out, if_neg HL0.out, if_pos (by rw [← HN.out]; exact HLE.out), numOf_one])
        obtain ⟨A3, c3, rfl, -⟩ := hr3
        obtain ⟨A4, c4, rfl, -⟩ := hr4
        clear MK hb4 HG3 hbw3
        generalize Rt.mk neg false (Ten.numOf t) (Ten.numOf [49]) = R at *
        obtain ⟨⟨rn, rt, rb⟩, re⟩ := R
        dsimp only at HR3 HR4 HEQ ⊢
        go_wp2_with (with_reducible refine wpList_store_row rfl 24 (.tmp 2) (.tmp 71) rfl w.heap.size #[.bool rn, .slice A3 rt.length c3, .slice A4 rb.length c4] rfl rfl 24 #[.bool false, .slice none 0 0, .slice none 0 0] HG4.out (HI3.out _ _ _ _ _ _ _) rfl (three_one _ _ _ _ _ _ _) ?_)
        refine bodyPost_ret (results_cell_row_tmp (by rfl) _ _ w.heap.size 24 #[.bool rn, .slice A3 rt.length c3, .slice A4 rb.length c4] (0, 0) _ _ (by rfl) (by rfl) (rheap_same HG4.out) Tryd.underlying24 rfl (HI3.out _ _ _ _ _ _ _)) rfl (MakeOut.of HEQ.out rfl HR3.out HR4.out (rBelow.setRow hbw4 (by omega) _))
end Go.Proofs.YtfiefglagknclaaDoor

/-
  scrimref03.Of: a whole number of an int; scrimref02.Mul, Add of numbers that calls handed back.
-/
namespace Go.Proofs.YtfiefglagknclaaDoor
open Go.RowKit
set_option maxHeartbeats 2000000
set_option maxRecDepth 100000
set_option linter.unusedVariables false

theorem rMul_res {w : World} {v1 v2 : Value} {l1 l2 : List Nat} (h1 : IsRes w v1 l1) (h2 : IsRes w v2 l2) (o1 : Nt.Ok l1) (o2 : Nt.Ok l2) (s1 : l1.length ≤ 1000000) (s2 : l2.length ≤ 1000000) :
    Calls Tryd.prog 40 #[v1, v2] w fun e w' => ∃ v, e = .returned v ∧ IsRes w' v (Nt.digs (Nt.val l1 * Nt.val l2)) ∧ Below w.heap.size w w' := by
  obtain ⟨A, c, rfl, a1, a2, a3, a4⟩ := h1
  obtain ⟨A', c', rfl, b1, b2, b3, b4⟩ := h2
  exact refMul_any A A' c c' w.heap.size l1 l2 w a4 b4 (Nat.le_refl _) o1 o2 a1 b1 a2 b2 s1 s2
theorem rAdd_res {w : World} {v1 v2 : Value} {l1 l2 : List Nat} (h1 : IsRes w v1 l1) (h2 : IsRes w v2 l2) (o1 : Nt.Ok l1) (o2 : Nt.Ok l2) (s1 : l1.length ≤ 1000000) (s2 : l2.length ≤ 1000000) :
    Calls Tryd.prog 73 #[v1, v2] w fun e w' => ∃ v, e = .returned v ∧ IsRes w' v (Nt.digs (Nt.val l1 + Nt.val l2)) ∧ Below w.heap.size w w' := by
  obtain ⟨A, c, rfl, a1, a2, a3, a4⟩ := h1
  obtain ⟨A', c', rfl, b1, b2, b3, b4⟩ := h2
  exact refAdd_any A A' c c' w.heap.size l1 l2 w a4 b4 (Nat.le_refl _) o1 o2 a1 b1 a2 b2 (by omega) (by omega)
theorem isRes_new (w : World) (l : List Nat) (h : l.length ≤ 1000) : IsRes (w.alloc (.cells (U l).toArray 70)) (.slice (some ⟨w.heap.size, 0, none⟩) l.length l.length) l :=
  ⟨_, _, rfl, Nat.le_refl _, by omega, (fun h => by cases h), by
    have := Lies.new w (U l) 70
    exact this.more (by simp)⟩
theorem ok_two {a b : Nat} (h1 : a < 4294967296) (h2 : b < 4294967296) : Nt.Ok [a, b] := by
  intro d hd
  rcases List.mem_cons.1 hd with rfl | hd
  · exact h1
  · rw [List.mem_singleton] at hd; subst hd; exact h2
theorem val_two (n : Nat) : Nt.val [n % 4294967296, n / 4294967296] = n := by simp [Nt.val]; omega

theorem refOfInt_any (n : Int) (w : World) (h1 : -9223372036854775808 ≤ n) (h2 : n ≤ 9223372036854775807) :
    Calls Tryd.prog 39 #[.int .i64 n] w (Int3Out w (decide (n < 0)) (Nt.digs n.natAbs)) := by
  have HI2 : Hid (∀ (b : Bool) (A : Option Addr) (k c : Nat), (Tryd.prog.info? 55).map (·.size) = some (#[.bool b, .slice A k c] : Array Value).size) := Lib.hid (fun _ _ _ _ => int3_info)
  obtain ⟨w1, hw1⟩ : ∃ w1, w1 = w.alloc (.cells #[.bool false, .slice none 0 0] 55) := ⟨_, rfl⟩
  have hb1 : Below w.heap.size w w1 := by rw [hw1]; exact (Below.refl _ _).alloc (Nat.le_refl _) _
  have HG1 : Hid (w1.heap[w.heap.size]? = some (.cells #[.bool false, .slice none 0 0] 55 (0, 0))) := Lib.hid (by rw [hw1]; exact heap_alloc_new w _)
  have HW1 := Lib.hid hw1
  have HS1 : Hid (w1.heap.size = w.heap.size + 1) := Lib.hid (by rw [hw1]; simp)
  clear hw1
  by_cases hn : 0 ≤ n
  · obtain ⟨m, rfl⟩ : ∃ m : Nat, n = (m : Int) := ⟨n.toNat, by omega⟩
    have hm1 : m % 4294967296 < 4294967296 := by omega
    have hm2 : m / 4294967296 < 4294967296 := by omega
    obtain ⟨w2, hw2⟩ : ∃ w2, w2 = w1.alloc (.cells #[.int .u32 ((m % 4294967296 : Nat) : Int), .int .u32 ((m / 4294967296 : Nat) : Int)] 70) := ⟨_, rfl⟩
    have hr : IsRes w2 (.slice (some ⟨w1.heap.size, 0, none⟩) 2 2) [m % 4294967296, m / 4294967296] := by rw [hw2]; exact isRes_new w1 [m % 4294967296, m / 4294967296] (by simp)
    have NM := norm3_any false _ _ w2 ⟨hr, ok_two hm1 hm2, by show 2 ≤ 64; decide⟩
    rw [val_two] at NM
    have hnn : Rt.nrm false m = false := by unfold Rt.nrm; simp
    rw [hnn, HS1.out] at NM
    have HP : Hid (decide ((m : Int) < 0) = false) := Lib.hid (decide_eq_false (by omega))
    have HM : Hid ((m : Int).natAbs = m) := Lib.hid (by omega)
    have hb2 : Below w.heap.size w w2 := by rw [hw2]; exact hb1.alloc hb1.size _
    have HG2 : Hid (w2.heap[w.heap.size]? = some (.cells #[.bool false, .slice none 0 0] 55 (0, 0))) := Lib.hid (by rw [hw2]; exact (Below.heap_alloc _ _ _ (blk_lt HG1.out)).trans HG1.out)
    have HNM := Lib.hid NM
    have HW2 : Hid (w2 = w1.alloc (.cells #[.int .u32 ((m : Int) % 4294967296), .int .u32 ((m : Int) / 4294967296)] 70)) := Lib.hid (by rw [hw2]; simp)
    have e1 : (m : Int) % 4294967296 < 4294967296 := by omega
    have e2 : (m : Int) / 4294967296 < 4294967296 := by omega
    have e3 : 0 ≤ (m : Int) % 4294967296 := by omega
    have e4 : 0 ≤ (m : Int) / 4294967296 := by omega
    clear hw2 NM hnn hr hm1 hm2
    go_enter Tryd.func39, Tryd.ntmps39
    go_wp2_with fail
    rw [← HW1.out, ← HW2.out]
    (with_reducible refine HNM.out.mono ?_)
    rintro e w3 ⟨v3, rfl, hr3, hb3⟩
    have HG3 := Lib.hid ((hb3.block w.heap.size (blk_lt HG2.out)).trans HG2.out)
    have hbw3 := hb2.trans (hb3.mono hb2.size)
    have HR3 := Lib.hid (hr3.setRow HG3.out (two_no_int _ _ _ _) #[.bool false, v3])
    obtain ⟨⟨A3, c3, rfl, -⟩, -⟩ := hr3
    clear hb3 hb1 hb2 HNM
    go_wp2_with (with_reducible refine wpList_store_row rfl 55 (.tmp 2) (.tmp 14) rfl w.heap.size #[.bool false, .slice A3 (Nt.digs m).length c3] rfl rfl 55 #[.bool false, .slice none 0 0] HG3.out (HI2.out _ _ _ _) rfl (two_one _ _ _ _) ?_)
    refine bodyPost_ret (results_cell_row (by rfl) _ _ w.heap.size 55 #[.bool false, .slice A3 (Nt.digs m).length c3] (0, 0) _ (by rfl) (rheap_same HG3.out) Tryd.underlying55 rfl (HI2.out _ _ _ _)) rfl ⟨_, by rw [HP.out], by rw [HM.out]; exact HR3.out, rBelow.setRow hbw3 (Nat.le_refl _) _⟩
  · obtain ⟨m, hm⟩ : ∃ m : Nat, -1 - n = (m : Int) := ⟨(-1 - n).toNat, by omega⟩
    have hm63 : m ≤ 9223372036854775807 := by omega
    have hm1 : m % 4294967296 < 4294967296 := by omega
    have hm2 : m / 4294967296 < 4294967296 := by omega
    obtain ⟨w2, hw2⟩ : ∃ w2, w2 = (w1.alloc (.cells #[.int .u32 ((m % 4294967296 : Nat) : Int), .int .u32 ((m / 4294967296 : Nat) : Int)] 70)).alloc (.cells #[.int .u32 1] 70) := ⟨_, rfl⟩
    have hr : IsRes w2 (.slice (some ⟨w1.heap.size, 0, none⟩) 2 2) [m % 4294967296, m / 4294967296] := by
      rw [hw2]
      exact (isRes_new w1 [m % 4294967296, m / 4294967296] (by simp)).below ((Below.refl _ _).alloc (Nat.le_refl _) _)
    have hr' : IsRes w2 (.slice (some ⟨w1.heap.size + 1, 0, none⟩) 1 1) [1] := by
      have := isRes_new (w1.alloc (.cells #[.int .u32 ((m % 4294967296 : Nat) : Int), .int .u32 ((m / 4294967296 : Nat) : Int)] 70)) [1] (by decide)
      rw [show (w1.alloc (.cells #[.int .u32 ((m % 4294967296 : Nat) : Int), .int .u32 ((m / 4294967296 : Nat) : Int)] 70)).heap.size = w1.heap.size + 1 by simp] at this
      rw [hw2]; exact this
    have AD := rAdd_res hr hr' (ok_two hm1 hm2) (by intro d hd; rw [List.mem_singleton] at hd; subst hd; decide) (by simp) (by simp)
    rw [val_two, show Nt.val [1] = 1 from rfl, HS1.out] at AD
    have hnn : Rt.nrm true (m + 1) = true := by unfold Rt.nrm; simp
    have HP : Hid (decide (n < 0) = true) := Lib.hid (decide_eq_true (by omega))
    have HM : Hid (n.natAbs = m + 1) := Lib.hid (by omega)
    have hb2 : Below w.heap.size w w2 := by rw [hw2]; exact (hb1.alloc hb1.size _).alloc (by have := hb1.size; simp; omega) _
    have HG2 : Hid (w2.heap[w.heap.size]? = some (.cells #[.bool false, .slice none 0 0] 55 (0, 0))) := Lib.hid (by
      have hlt := blk_lt HG1.out
      rw [hw2]; exact (Below.heap_alloc _ _ _ (by simp; omega)).trans ((Below.heap_alloc _ _ _ hlt).trans HG1.out))
    have HAD := Lib.hid AD
    have HW2 : Hid (w2 = (w1.alloc (.cells #[.int .u32 ((m : Int) % 4294967296), .int .u32 ((m : Int) / 4294967296)] 70)).alloc (.cells #[.int .u32 1] 70)) := Lib.hid (by rw [hw2]; simp)
    have HNN := Lib.hid hnn
    have hdl : (Nt.digs (m + 1)).length ≤ 64 := by
      have := Nt.digs_len_lt (n := m + 1) (k := 2) (by omega)
      omega
    have e0 : IntKind.i64.wrap (-1 - n) = (m : Int) := by rw [hm]; exact IntWalk.i64_in _ (by omega)
    have e1 : (m : Int) % 4294967296 < 4294967296 := by omega
    have e2 : (m : Int) / 4294967296 < 4294967296 := by omega
    have e3 : 0 ≤ (m : Int) % 4294967296 := by omega
    have e4 : 0 ≤ (m : Int) / 4294967296 := by omega
    have hneg : decide (0 ≤ n) = false := decide_eq_false hn
    have e5 : wrap64 (-1 - n) = (m : Int) := IntWalk.wrap64_in _ (by omega) |>.trans hm
    clear hw2 AD hnn hr hr' hm1 hm2 hm63 h2 hn h1 hm
    go_enter Tryd.func39, Tryd.ntmps39
    go_wp2_with fail
    rw [← HW1.out, ← HW2.out]
    (with_reducible refine HAD.out.mono ?_)
    rintro e w3 ⟨v3, rfl, hr3, hb3⟩
    have HG3 := Lib.hid ((hb3.block w.heap.size (blk_lt HG2.out)).trans HG2.out)
    have hbw3 := hb2.trans (hb3.mono hb2.size)
    have NM := norm3_any true v3 _ w3 ⟨hr3, Nt.ok_digs _, hdl⟩
    rw [Nt.val_digs, HNN.out] at NM
    have HNM := Lib.hid NM
    obtain ⟨A3, c3, rfl, -⟩ := hr3
    clear hb3 hb1 hb2 HAD NM
    go_wp2_with fail
    (with_reducible refine HNM.out.mono ?_)
    rintro e w4 ⟨v4, rfl, hr4, hb4⟩
    have HG4 := Lib.hid ((hb4.block w.heap.size (blk_lt HG3.out)).trans HG3.out)
    have hbw4 := hbw3.trans (hb4.mono hbw3.size)
    have HR4 := Lib.hid (hr4.setRow HG4.out (two_no_int _ _ _ _) #[.bool true, v4])
    obtain ⟨⟨A4, c4, rfl, -⟩, -⟩ := hr4
    clear hb4 HNM
    go_wp2_with (with_reducible refine wpList_store_row rfl 55 (.tmp 2) (.tmp 27) rfl w.heap.size #[.bool true, .slice A4 (Nt.digs (m + 1)).length c4] rfl rfl 55 #[.bool false, .slice none 0 0] HG4.out (HI2.out _ _ _ _) rfl (two_one _ _ _ _) ?_)
    refine bodyPost_ret (results_cell_row (by rfl) _ _ w.heap.size 55 #[.bool true, .slice A4 (Nt.digs (m + 1)).length c4] (0, 0) _ (by rfl) (rheap_same HG4.out) Tryd.underlying55 rfl (HI2.out _ _ _ _)) rfl ⟨_, by rw [HP.out], by rw [HM.out]; exact HR4.out, rBelow.setRow hbw4 (Nat.le_refl _) _⟩
end Go.Proofs.YtfiefglagknclaaDoor

/-
  Arrays as trees, plain: no program in sight. Joins of labels, equality with labels and without, erasing.
-/
namespace Ar
mutual
inductive Arr where
  | mk (S : Nat) (shape : List Int) (cells : List Cel)
inductive Cel where
  | mk (L : Nat) (kind : Int) (neg : Bool) (top bot : List Nat) (c : Int) (ins : List Arr)
end

/-! ### The join of all labels, onto what was joined before -/
mutual
def tot : Arr → Nat
  | .mk S _ cells => totCels S cells
def totCels : Nat → List Cel → Nat
  | x, [] => x
  | x, c :: r => totCels (totCel x c) r
def totCel : Nat → Cel → Nat
  | x, .mk L _ _ _ _ _ ins => totArrs (x ||| L) ins
def totArrs : Nat → List Arr → Nat
  | x, [] => x
  | x, a :: r => totArrs (x ||| tot a) r
end

/-! ### The same, with labels or without -/
mutual
def same (lab : Bool) : Arr → Arr → Bool
  | .mk S sh cs, .mk S' sh' cs' => (!lab || S == S') && (sh == sh') && sameCels lab cs cs'
def sameCels (lab : Bool) : List Cel → List Cel → Bool
  | [], [] => true
  | c :: r, c' :: r' => sameCel lab c c' && sameCels lab r r'
  | _, _ => false
def sameCel (lab : Bool) : Cel → Cel → Bool
  | .mk L k n t b c ins, .mk L' k' n' t' b' c' ins' => (!lab || L == L') && (k == k') && (c == c') && (n == n' && t == t' && b == b') && sameArrs lab ins ins'
def sameArrs (lab : Bool) : List Arr → List Arr → Bool
  | [], [] => true
  | a :: r, a' :: r' => same lab a a' && sameArrs lab r r'
  | _, _ => false
end

/-! ### Without labels -/
mutual
def erase : Arr → Arr
  | .mk _ sh cs => .mk 0 sh (eraseCels cs)
def eraseCels : List Cel → List Cel
  | [] => []
  | c :: r => eraseCel c :: eraseCels r
def eraseCel : Cel → Cel
  | .mk _ k n t b c ins => .mk 0 k n t b c (eraseArrs ins)
def eraseArrs : List Arr → List Arr
  | [] => []
  | a :: r => erase a :: eraseArrs r
end

mutual
theorem same_erase : ∀ a b : Arr, same true (erase a) (erase b) = same false a b
  | .mk _ _ cs, .mk _ _ cs' => by simp [erase, same, same_eraseCels cs cs']
theorem same_eraseCels : ∀ a b : List Cel, sameCels true (eraseCels a) (eraseCels b) = sameCels false a b
  | [], [] => by simp [sameCels, eraseCels]
  | [], _ :: _ => by simp [sameCels, eraseCels]
  | _ :: _, [] => by simp [sameCels, eraseCels]
  | c :: r, c' :: r' => by simp [eraseCels, sameCels, same_eraseCel c c', same_eraseCels r r']
theorem same_eraseCel : ∀ a b : Cel, sameCel true (eraseCel a) (eraseCel b) = sameCel false a b
  | .mk _ _ _ _ _ _ ins, .mk _ _ _ _ _ _ ins' => by simp [eraseCel, sameCel, same_eraseArrs ins ins']
theorem same_eraseArrs : ∀ a b : List Arr, sameArrs true (eraseArrs a) (eraseArrs b) = sameArrs false a b
  | [], [] => by simp [sameArrs, eraseArrs]
  | [], _ :: _ => by simp [sameArrs, eraseArrs]
  | _ :: _, [] => by simp [sameArrs, eraseArrs]
  | a :: r, a' :: r' => by simp [eraseArrs, sameArrs, same_erase a a', same_eraseArrs r r']
end

mutual
theorem same_refl (lab : Bool) : ∀ a : Arr, same lab a a = true
  | .mk _ _ cs => by simp [same, sameCels_refl lab cs]
theorem sameCels_refl (lab : Bool) : ∀ a : List Cel, sameCels lab a a = true
  | [] => by simp [sameCels]
  | c :: r => by simp [sameCels, sameCel_refl lab c, sameCels_refl lab r]
theorem sameCel_refl (lab : Bool) : ∀ a : Cel, sameCel lab a a = true
  | .mk _ _ _ _ _ _ ins => by simp [sameCel, sameArrs_refl lab ins]
theorem sameArrs_refl (lab : Bool) : ∀ a : List Arr, sameArrs lab a a = true
  | [] => by simp [sameArrs]
  | a :: r => by simp [sameArrs, same_refl lab a, sameArrs_refl lab r]
end

mutual
theorem same_symm (lab : Bool) : ∀ a b : Arr, same lab a b = true → same lab b a = true
  | .mk _ _ cs, .mk _ _ cs', h => by
    simp only [same, Bool.and_eq_true, Bool.or_eq_true, Bool.not_eq_true', beq_iff_eq] at h ⊢
    exact ⟨⟨h.1.1.imp id Eq.symm, h.1.2.symm⟩, sameCels_symm lab cs cs' h.2⟩
theorem sameCels_symm (lab : Bool) : ∀ a b : List Cel, sameCels lab a b = true → sameCels lab b a = true
  | [], [], _ => by simp [sameCels]
  | [], _ :: _, h => by simp [sameCels] at h
  | _ :: _, [], h => by simp [sameCels] at h
  | c :: r, c' :: r', h => by
    simp only [sameCels, Bool.and_eq_true] at h ⊢
    exact ⟨sameCel_symm lab c c' h.1, sameCels_symm lab r r' h.2⟩
theorem sameCel_symm (lab : Bool) : ∀ a b : Cel, sameCel lab a b = true → sameCel lab b a = true
  | .mk _ _ _ _ _ _ ins, .mk _ _ _ _ _ _ ins', h => by
    simp only [sameCel, Bool.and_eq_true, Bool.or_eq_true, Bool.not_eq_true', beq_iff_eq] at h ⊢
    exact ⟨⟨⟨⟨h.1.1.1.1.imp id Eq.symm, h.1.1.1.2.symm⟩, h.1.1.2.symm⟩, ⟨h.1.2.1.1.symm, h.1.2.1.2.symm⟩, h.1.2.2.symm⟩, sameArrs_symm lab ins ins' h.2⟩
theorem sameArrs_symm (lab : Bool) : ∀ a b : List Arr, sameArrs lab a b = true → sameArrs lab b a = true
  | [], [], _ => by simp [sameArrs]
  | [], _ :: _, h => by simp [sameArrs] at h
  | _ :: _, [], h => by simp [sameArrs] at h
  | a :: r, a' :: r', h => by
    simp only [sameArrs, Bool.and_eq_true] at h ⊢
    exact ⟨same_symm lab a a' h.1, sameArrs_symm lab r r' h.2⟩
end

mutual
theorem same_trans (lab : Bool) : ∀ a b c : Arr, same lab a b = true → same lab b c = true → same lab a c = true
  | .mk _ _ cs, .mk _ _ cs', .mk _ _ cs'', h, h' => by
    simp only [same, Bool.and_eq_true, Bool.or_eq_true, Bool.not_eq_true', beq_iff_eq] at h h' ⊢
    refine ⟨⟨?_, h.1.2.trans h'.1.2⟩, sameCels_trans lab cs cs' cs'' h.2 h'.2⟩
    rcases h.1.1 with e | e
    · exact .inl e
    · rcases h'.1.1 with e' | e'
      · exact .inl e'
      · exact .inr (e.trans e')
theorem sameCels_trans (lab : Bool) : ∀ a b c : List Cel, sameCels lab a b = true → sameCels lab b c = true → sameCels lab a c = true
  | [], [], [], _, _ => by simp [sameCels]
  | [], _ :: _, _, h, _ => by simp [sameCels] at h
  | _ :: _, [], _, h, _ => by simp [sameCels] at h
  | [], [], _ :: _, _, h => by simp [sameCels] at h
  | _ :: _, _ :: _, [], _, h => by simp [sameCels] at h
  | c :: r, c' :: r', c'' :: r'', h, h' => by
    simp only [sameCels, Bool.and_eq_true] at h h' ⊢
    exact ⟨sameCel_trans lab c c' c'' h.1 h'.1, sameCels_trans lab r r' r'' h.2 h'.2⟩
theorem sameCel_trans (lab : Bool) : ∀ a b c : Cel, sameCel lab a b = true → sameCel lab b c = true → sameCel lab a c = true
  | .mk _ _ _ _ _ _ ins, .mk _ _ _ _ _ _ ins', .mk _ _ _ _ _ _ ins'', h, h' => by
    simp only [sameCel, Bool.and_eq_true, Bool.or_eq_true, Bool.not_eq_true', beq_iff_eq] at h h' ⊢
    refine ⟨⟨⟨⟨?_, h.1.1.1.2.trans h'.1.1.1.2⟩, h.1.1.2.trans h'.1.1.2⟩, ⟨h.1.2.1.1.trans h'.1.2.1.1, h.1.2.1.2.trans h'.1.2.1.2⟩, h.1.2.2.trans h'.1.2.2⟩, sameArrs_trans lab ins ins' ins'' h.2 h'.2⟩
    rcases h.1.1.1.1 with e | e
    · exact .inl e
    · rcases h'.1.1.1.1 with e' | e'
      · exact .inl e'
      · exact .inr (e.trans e')
theorem sameArrs_trans (lab : Bool) : ∀ a b c : List Arr, sameArrs lab a b = true → sameArrs lab b c = true → sameArrs lab a c = true
  | [], [], [], _, _ => by simp [sameArrs]
  | [], _ :: _, _, h, _ => by simp [sameArrs] at h
  | _ :: _, [], _, h, _ => by simp [sameArrs] at h
  | [], [], _ :: _, _, h => by simp [sameArrs] at h
  | _ :: _, _ :: _, [], _, h => by simp [sameArrs] at h
  | a :: r, a' :: r', a'' :: r'', h, h' => by
    simp only [sameArrs, Bool.and_eq_true] at h h' ⊢
    exact ⟨same_trans lab a a' a'' h.1 h'.1, sameArrs_trans lab r r' r'' h.2 h'.2⟩
end

theorem sameCels_len (lab : Bool) : ∀ {a b : List Cel}, sameCels lab a b = true → a.length = b.length
  | [], [], _ => rfl
  | [], _ :: _, h => by simp [sameCels] at h
  | _ :: _, [], h => by simp [sameCels] at h
  | c :: r, c' :: r', h => by
    simp only [sameCels, Bool.and_eq_true] at h
    simp [sameCels_len lab h.2]
theorem sameArrs_len (lab : Bool) : ∀ {a b : List Arr}, sameArrs lab a b = true → a.length = b.length
  | [], [], _ => rfl
  | [], _ :: _, h => by simp [sameArrs] at h
  | _ :: _, [], h => by simp [sameArrs] at h
  | c :: r, c' :: r', h => by
    simp only [sameArrs, Bool.and_eq_true] at h
    simp [sameArrs_len lab h.2]
theorem eraseCels_len : ∀ a : List Cel, (eraseCels a).length = a.length
  | [] => by simp [eraseCels]
  | _ :: r => by simp [eraseCels, eraseCels_len r]
theorem eraseArrs_len : ∀ a : List Arr, (eraseArrs a).length = a.length
  | [] => by simp [eraseArrs]
  | _ :: r => by simp [eraseArrs, eraseArrs_len r]
theorem totCels_drop {cs : List Cel} {k : Nat} (h : k < cs.length) (x : Nat) : totCels x (cs.drop k) = totCels (totCel x cs[k]) (cs.drop (k + 1)) := by
  rw [List.drop_eq_getElem_cons h, totCels]
theorem totArrs_drop {cs : List Arr} {k : Nat} (h : k < cs.length) (x : Nat) : totArrs x (cs.drop k) = totArrs (x ||| tot cs[k]) (cs.drop (k + 1)) := by
  rw [List.drop_eq_getElem_cons h, totArrs]
theorem sameCels_drop (lab : Bool) {cs cs' : List Cel} {k : Nat} (h : k < cs.length) (h' : k < cs'.length) : sameCels lab (cs.drop k) (cs'.drop k) = (sameCel lab cs[k] cs'[k] && sameCels lab (cs.drop (k + 1)) (cs'.drop (k + 1))) := by
  rw [List.drop_eq_getElem_cons h, List.drop_eq_getElem_cons h', sameCels]
theorem sameArrs_drop (lab : Bool) {cs cs' : List Arr} {k : Nat} (h : k < cs.length) (h' : k < cs'.length) : sameArrs lab (cs.drop k) (cs'.drop k) = (same lab cs[k] cs'[k] && sameArrs lab (cs.drop (k + 1)) (cs'.drop (k + 1))) := by
  rw [List.drop_eq_getElem_cons h, List.drop_eq_getElem_cons h', sameArrs]
theorem eraseCels_take {cs : List Cel} {k : Nat} (h : k < cs.length) : eraseCels (cs.take (k + 1)) = eraseCels (cs.take k) ++ [eraseCel cs[k]] := by
  rw [List.take_succ_eq_append_getElem h]
  generalize cs.take k = l
  induction l with
  | nil => rfl
  | cons a r ih => simp [eraseCels, ih]
theorem eraseArrs_take {cs : List Arr} {k : Nat} (h : k < cs.length) : eraseArrs (cs.take (k + 1)) = eraseArrs (cs.take k) ++ [erase cs[k]] := by
  rw [List.take_succ_eq_append_getElem h]
  generalize cs.take k = l
  induction l with
  | nil => rfl
  | cons a r ih => simp [eraseArrs, ih]
end Ar

/-
  Arrays in memory: what it is that cells hold a tree ('IsArr'), kept from world to world.
-/
namespace Go.Proofs.YtfiefglagknclaaDoor
open Go.RowKit Ar
set_option linter.unusedVariables false

/-- A slice value that holds n elements of so many bytes each. -/
def Fits (n c bytes : Nat) : Prop := n ≤ c ∧ n * bytes ≤ 140737488351232 ∧ c ≤ 9223372036854775807
theorem Fits.le {n c bytes : Nat} (h : Fits n c bytes) (hb : 1 ≤ bytes) : n ≤ c ∧ n ≤ 140737488351232 := by
  refine ⟨h.1, ?_⟩
  have h1 := Nat.mul_le_mul_left n hb
  have h2 := h.2.1
  omega
def Wf64 (l : List Int) : Prop := ∀ n ∈ l, -9223372036854775808 ≤ n ∧ n ≤ 9223372036854775807
def Wf32 (l : List Nat) : Prop := ∀ n ∈ l, n < 4294967296
def I64 (l : List Int) : List Value := l.map (Value.int .i64)
def U32 (l : List Nat) : List Value := l.map fun n : Nat => Value.int .u32 (n : Int)

mutual
/-- Three cells hold an array. -/
def IsArr (w : World) (B : Nat) : Arr → List Value → Prop
  | .mk S shape cells, vs => ∃ A c A' c' us, vs = [.int .u64 (S : Int), .slice A shape.length c, .slice A' cells.length c'] ∧ S < 18446744073709551616 ∧ Fits shape.length c 8 ∧ Fits cells.length c' 104 ∧ Wf64 shape ∧
      Lies w B A (I64 shape) ∧ Lies w B A' us ∧ IsCels w B cells us
def IsCels (w : World) (B : Nat) : List Cel → List Value → Prop
  | [], vs => vs = []
  | c :: r, vs => ∃ u t, vs = u ++ t ∧ IsCel w B c u ∧ IsCels w B r t
/-- Seven cells hold a cell. -/
def IsCel (w : World) (B : Nat) : Cel → List Value → Prop
  | .mk L kind neg top bot ch ins, vs => ∃ A c A' c' A'' c'' us, vs = [.int .u64 (L : Int), .int .i64 kind, .bool neg, .slice A top.length c, .slice A' bot.length c', .int .i64 ch, .slice A'' ins.length c''] ∧
      L < 18446744073709551616 ∧ Fits top.length c 4 ∧ Fits bot.length c' 4 ∧ Fits ins.length c'' 56 ∧ Wf64 [kind, ch] ∧ Wf32 top ∧ Wf32 bot ∧ Lies w B A (U32 top) ∧ Lies w B A' (U32 bot) ∧ Lies w B A'' us ∧ IsArrs w B ins us ∧ (A = none → c = 0) ∧ (A' = none → c' = 0)
def IsArrs (w : World) (B : Nat) : List Arr → List Value → Prop
  | [], vs => vs = []
  | a :: r, vs => ∃ u t, vs = u ++ t ∧ IsArr w B a u ∧ IsArrs w B r t
end

theorem IsArr.len {w : World} {B : Nat} {a : Arr} {vs : List Value} (h : IsArr w B a vs) : vs.length = 3 := by
  cases a; rw [IsArr] at h
  obtain ⟨A, c, A', c', us, rfl, _⟩ := h
  rfl
theorem IsCel.len {w : World} {B : Nat} {a : Cel} {vs : List Value} (h : IsCel w B a vs) : vs.length = 7 := by
  cases a; rw [IsCel] at h
  obtain ⟨A, c, A', c', A2, c2, us, rfl, _⟩ := h
  rfl

mutual
theorem IsArr.keep {w w' : World} {B B' : Nat} (hk : ∀ p : Addr, p.block < B → w'.cell? p = w.cell? p) (hB : B ≤ B') : ∀ (a : Arr) (vs : List Value), IsArr w B a vs → IsArr w' B' a vs
  | .mk S shape cells, vs, h => by
    rw [IsArr] at h ⊢
    obtain ⟨A, c, A', c', us, h1, h2, h3, h4, h5, h6, h7, h8⟩ := h
    exact ⟨A, c, A', c', us, h1, h2, h3, h4, h5, (h6.keep hk).more hB, (h7.keep hk).more hB, IsCels.keep hk hB cells us h8⟩
theorem IsCels.keep {w w' : World} {B B' : Nat} (hk : ∀ p : Addr, p.block < B → w'.cell? p = w.cell? p) (hB : B ≤ B') : ∀ (a : List Cel) (vs : List Value), IsCels w B a vs → IsCels w' B' a vs
  | [], vs, h => by rw [IsCels] at h ⊢; exact h
  | c :: r, vs, h => by
    rw [IsCels] at h ⊢
    obtain ⟨u, t, h1, h2, h3⟩ := h
    exact ⟨u, t, h1, IsCel.keep hk hB c u h2, IsCels.keep hk hB r t h3⟩
theorem IsCel.keep {w w' : World} {B B' : Nat} (hk : ∀ p : Addr, p.block < B → w'.cell? p = w.cell? p) (hB : B ≤ B') : ∀ (a : Cel) (vs : List Value), IsCel w B a vs → IsCel w' B' a vs
  | .mk L kind neg top bot ch ins, vs, h => by
    rw [IsCel] at h ⊢
    obtain ⟨A, c, A', c', A2, c2, us, h1, h2, h3, h4, h5, h6, h7, h8, h9, h10, h11, h12⟩ := h
    exact ⟨A, c, A', c', A2, c2, us, h1, h2, h3, h4, h5, h6, h7, h8, (h9.keep hk).more hB, (h10.keep hk).more hB, (h11.keep hk).more hB, IsArrs.keep hk hB ins us h12.1, h12.2⟩
theorem IsArrs.keep {w w' : World} {B B' : Nat} (hk : ∀ p : Addr, p.block < B → w'.cell? p = w.cell? p) (hB : B ≤ B') : ∀ (a : List Arr) (vs : List Value), IsArrs w B a vs → IsArrs w' B' a vs
  | [], vs, h => by rw [IsArrs] at h ⊢; exact h
  | c :: r, vs, h => by
    rw [IsArrs] at h ⊢
    obtain ⟨u, t, h1, h2, h3⟩ := h
    exact ⟨u, t, h1, IsArr.keep hk hB c u h2, IsArrs.keep hk hB r t h3⟩
end
theorem IsArr.below {w w' : World} {B : Nat} {a : Arr} {vs : List Value} (h : IsArr w B a vs) (hb : Below B w w') : IsArr w' B a vs := IsArr.keep (fun _ hp => hb.cell hp) (Nat.le_refl _) a vs h
theorem IsArr.more {w : World} {B B' : Nat} {a : Arr} {vs : List Value} (h : IsArr w B a vs) (hB : B ≤ B') : IsArr w B' a vs := IsArr.keep (fun _ _ => rfl) hB a vs h
theorem IsCel.below {w w' : World} {B : Nat} {a : Cel} {vs : List Value} (h : IsCel w B a vs) (hb : Below B w w') : IsCel w' B a vs := IsCel.keep (fun _ hp => hb.cell hp) (Nat.le_refl _) a vs h
theorem IsArrs.below {w w' : World} {B : Nat} {a : List Arr} {vs : List Value} (h : IsArrs w B a vs) (hb : Below B w w') : IsArrs w' B a vs := IsArrs.keep (fun _ hp => hb.cell hp) (Nat.le_refl _) a vs h
theorem IsCels.below {w w' : World} {B : Nat} {a : List Cel} {vs : List Value} (h : IsCels w B a vs) (hb : Below B w w') : IsCels w' B a vs := IsCels.keep (fun _ hp => hb.cell hp) (Nat.le_refl _) a vs h

theorem IsCels.at_ {w : World} {B : Nat} : ∀ {cs : List Cel} {vs : List Value} (h : IsCels w B cs vs) {k : Nat} (hk : k < cs.length), ∃ u, IsCel w B cs[k] u ∧ u = (vs.drop (7 * k)).take 7
  | [], _, _, _, hk => by simp at hk
  | c :: r, vs, h, 0, _ => by
    rw [IsCels] at h
    obtain ⟨u, t, rfl, h2, h3⟩ := h
    exact ⟨u, h2, by simp [h2.len]⟩
  | c :: r, vs, h, k + 1, hk => by
    rw [IsCels] at h
    obtain ⟨u, t, rfl, h2, h3⟩ := h
    obtain ⟨u', h4, h5⟩ := h3.at_ (k := k) (by simpa using hk)
    refine ⟨u', h4, h5.trans ?_⟩
    rw [show 7 * (k + 1) = u.length + 7 * k by rw [h2.len]; omega, List.drop_append, List.drop_eq_nil_of_le (Nat.le_add_right _ _), Nat.add_sub_cancel_left, List.nil_append]
theorem IsArrs.at_ {w : World} {B : Nat} : ∀ {cs : List Arr} {vs : List Value} (h : IsArrs w B cs vs) {k : Nat} (hk : k < cs.length), ∃ u, IsArr w B cs[k] u ∧ u = (vs.drop (3 * k)).take 3
  | [], _, _, _, hk => by simp at hk
  | c :: r, vs, h, 0, _ => by
    rw [IsArrs] at h
    obtain ⟨u, t, rfl, h2, h3⟩ := h
    exact ⟨u, h2, by simp [h2.len]⟩
  | c :: r, vs, h, k + 1, hk => by
    rw [IsArrs] at h
    obtain ⟨u, t, rfl, h2, h3⟩ := h
    obtain ⟨u', h4, h5⟩ := h3.at_ (k := k) (by simpa using hk)
    refine ⟨u', h4, h5.trans ?_⟩
    rw [show 3 * (k + 1) = u.length + 3 * k by rw [h2.len]; omega, List.drop_append, List.drop_eq_nil_of_le (Nat.le_add_right _ _), Nat.add_sub_cancel_left, List.nil_append]
theorem IsCels.len {w : World} {B : Nat} : ∀ {cs : List Cel} {vs : List Value} (h : IsCels w B cs vs), vs.length = 7 * cs.length
  | [], _, h => by rw [IsCels] at h; subst h; rfl
  | c :: r, vs, h => by
    rw [IsCels] at h
    obtain ⟨u, t, rfl, h2, h3⟩ := h
    rw [List.length_append, h2.len, h3.len, List.length_cons]; omega
theorem IsArrs.len {w : World} {B : Nat} : ∀ {cs : List Arr} {vs : List Value} (h : IsArrs w B cs vs), vs.length = 3 * cs.length
  | [], _, h => by rw [IsArrs] at h; subst h; rfl
  | c :: r, vs, h => by
    rw [IsArrs] at h
    obtain ⟨u, t, rfl, h2, h3⟩ := h
    rw [List.length_append, h2.len, h3.len, List.length_cons]; omega
theorem IsCels.snoc {w : World} {B : Nat} : ∀ {cs : List Cel} {vs : List Value} (h : IsCels w B cs vs) {c : Cel} {u : List Value} (hc : IsCel w B c u), IsCels w B (cs ++ [c]) (vs ++ u)
  | [], vs, h, c, u, hc => by
    rw [IsCels] at h; subst h
    show IsCels w B [c] _
    rw [IsCels]; exact ⟨u, [], by simp, hc, by rw [IsCels]⟩
  | x :: r, vs, h, c, u, hc => by
    rw [IsCels] at h
    obtain ⟨u', t, rfl, h2, h3⟩ := h
    show IsCels w B (x :: (r ++ [c])) _
    rw [IsCels]; exact ⟨u', t ++ u, by simp, h2, h3.snoc hc⟩
theorem IsArrs.snoc {w : World} {B : Nat} : ∀ {cs : List Arr} {vs : List Value} (h : IsArrs w B cs vs) {c : Arr} {u : List Value} (hc : IsArr w B c u), IsArrs w B (cs ++ [c]) (vs ++ u)
  | [], vs, h, c, u, hc => by
    rw [IsArrs] at h; subst h
    show IsArrs w B [c] _
    rw [IsArrs]; exact ⟨u, [], by simp, hc, by rw [IsArrs]⟩
  | x :: r, vs, h, c, u, hc => by
    rw [IsArrs] at h
    obtain ⟨u', t, rfl, h2, h3⟩ := h
    show IsArrs w B (x :: (r ++ [c])) _
    rw [IsArrs]; exact ⟨u', t ++ u, by simp, h2, h3.snoc hc⟩

/-- The cells of the k-th element of a row of elements of so many cells each. -/
theorem Lies.elem {w : World} {B : Nat} {A : Option Addr} {vs : List Value} (h : Lies w B A vs) {m k : Nat} {u : List Value} (hu : u = (vs.drop (m * k)).take m) (hn : u ≠ []) :
    ∃ b off, A = some ⟨b, off, none⟩ ∧ b < B ∧ ∀ j v, u[j]? = some v → w.cell? ⟨b, off + k * m + j, none⟩ = some v := by
  rcases h with h | ⟨b, off, hA, hb, hc⟩
  · subst h; simp at hu; exact absurd hu hn
  · refine ⟨b, off, hA, hb, fun j v hv => ?_⟩
    have := hc (k * m + j) v (by
      rw [hu, List.getElem?_take] at hv
      split at hv
      · rw [List.getElem?_drop] at hv; rw [← hv, Nat.mul_comm]
      · cases hv)
    rw [← this, Nat.add_assoc]

/-- What stands behind the slices of a cell. -/
structure CelIn (w : World) (B : Nat) (ce : Cel) (L : Nat) (kind : Int) (neg : Bool) (top bot : List Nat) (ch : Int) (ins : List Arr) (A1 A2 A3 : Option Addr) (c1 c2 c3 : Nat) (us : List Value) : Prop where
  eq : ce = .mk L kind neg top bot ch ins
  lt : Lies w B A1 (U32 top)
  lb : Lies w B A2 (U32 bot)
  li : Lies w B A3 us
  arrs : IsArrs w B ins us
  wt : Wf32 top
  wb : Wf32 bot
  wk : Wf64 [kind, ch]
  ft : Fits top.length c1 4
  fb : Fits bot.length c2 4
  fi : Fits ins.length c3 56
  nt : A1 = none → c1 = 0
  nb : A2 = none → c2 = 0
/-- The k-th cell of an array, read. -/
theorem cel_at {w wr : World} {B : Nat} {A : Option Addr} {cells : List Cel} {us : List Value} {k : Nat} (hcs : IsCels w B cells us) (hl : Lies w B A us) (hk : ∀ p : Addr, p.block < B → wr.cell? p = w.cell? p) (hlt : k < cells.length) :
    ∃ b off L kind neg top bot ch ins A1 c1 A2 c2 A3 c3 us3, A = some ⟨b, off, none⟩ ∧ b < B ∧ L < 18446744073709551616 ∧ Hid (CelIn w B cells[k] L kind neg top bot ch ins A1 A2 A3 c1 c2 c3 us3) ∧
      top.length ≤ c1 ∧ top.length ≤ 35184372088832 ∧ bot.length ≤ c2 ∧ bot.length ≤ 35184372088832 ∧ ins.length ≤ c3 ∧ ins.length ≤ 35184372088832 ∧
      wr.cell? ⟨b, off + k * 7, none⟩ = some (.int .u64 (L : Int)) ∧ wr.cell? ⟨b, off + k * 7 + 1, none⟩ = some (.int .i64 kind) ∧ wr.cell? ⟨b, off + k * 7 + 2, none⟩ = some (.bool neg) ∧
      wr.cell? ⟨b, off + k * 7 + 3, none⟩ = some (.slice A1 top.length c1) ∧ wr.cell? ⟨b, off + k * 7 + 4, none⟩ = some (.slice A2 bot.length c2) ∧ wr.cell? ⟨b, off + k * 7 + 5, none⟩ = some (.int .i64 ch) ∧
      wr.cell? ⟨b, off + k * 7 + 6, none⟩ = some (.slice A3 ins.length c3) := by
  obtain ⟨u, hu, hue⟩ := hcs.at_ hlt
  obtain ⟨b, off, rfl, hb, hcell⟩ := hl.elem hue (by intro h; have := hu.len; rw [h] at this; cases this)
  obtain ⟨ce, hce⟩ : ∃ ce, ce = cells[k] := ⟨_, rfl⟩
  rw [← hce] at hu ⊢
  obtain ⟨L, kind, neg, top, bot, ch, ins⟩ := ce
  rw [IsCel] at hu
  obtain ⟨A1, c1, A2, c2, A3, c3, us3, rfl, hL, hf1, hf2, hf3, hw1, hw2, hw3, hl1, hl2, hl3, hins, hnt, hnb⟩ := hu
  have hc : ∀ j v, [Value.int .u64 (L : Int), .int .i64 kind, .bool neg, .slice A1 top.length c1, .slice A2 bot.length c2, .int .i64 ch, .slice A3 ins.length c3][j]? = some v → wr.cell? ⟨b, off + k * 7 + j, none⟩ = some v := fun j v hv => (hk ⟨b, off + k * 7 + j, none⟩ hb).trans (hcell j v hv)
  have h1 := hf1.2
  have h2 := hf2.2
  have h3 := hf3.2
  exact ⟨b, off, L, kind, neg, top, bot, ch, ins, A1, c1, A2, c2, A3, c3, us3, rfl, hb, hL, Lib.hid ⟨rfl, hl1, hl2, hl3, hins, hw2, hw3, hw1, hf1, hf2, hf3, hnt, hnb⟩, hf1.1, by omega, hf2.1, by omega, hf3.1, by omega, hc 0 _ rfl, hc 1 _ rfl, hc 2 _ rfl, hc 3 _ rfl, hc 4 _ rfl, hc 5 _ rfl, hc 6 _ rfl⟩
/-- The form of an array's three cells. -/
theorem IsArr.form {w : World} {B : Nat} {a : Arr} {vs : List Value} (h : IsArr w B a vs) : ∃ (S : Nat) (A : Option Addr) (n c : Nat) (A' : Option Addr) (n' c' : Nat), vs = [.int .u64 (S : Int), .slice A n c, .slice A' n' c'] := by
  cases a; rw [IsArr] at h
  obtain ⟨A, c, A', c', us, rfl, _⟩ := h
  exact ⟨_, _, _, _, _, _, _, rfl⟩
/-- The k-th array of a list of arrays, read. -/
theorem arr_at {w wr : World} {B : Nat} {A : Option Addr} {arrs : List Arr} {us : List Value} {k : Nat} (hcs : IsArrs w B arrs us) (hl : Lies w B A us) (hk : ∀ p : Addr, p.block < B → wr.cell? p = w.cell? p) (hlt : k < arrs.length) :
    ∃ (b off S' : Nat) (X : Option Addr) (n c : Nat) (X' : Option Addr) (n' c' : Nat), A = some ⟨b, off, none⟩ ∧ b < B ∧ Hid (IsArr w B arrs[k] [.int .u64 (S' : Int), .slice X n c, .slice X' n' c']) ∧ wr.cell? ⟨b, off + k * 3, none⟩ = some (.int .u64 (S' : Int)) ∧ wr.cell? ⟨b, off + k * 3 + 1, none⟩ = some (.slice X n c) ∧ wr.cell? ⟨b, off + k * 3 + 2, none⟩ = some (.slice X' n' c') := by
  obtain ⟨u, hu, hue⟩ := hcs.at_ hlt
  obtain ⟨b, off, rfl, hb, hcell⟩ := hl.elem hue (by intro h; have := hu.len; rw [h] at this; cases this)
  obtain ⟨S, X, n, c, X', n', c', rfl⟩ := hu.form
  have hc : ∀ j v, [Value.int .u64 (S : Int), .slice X n c, .slice X' n' c'][j]? = some v → wr.cell? ⟨b, off + k * 3 + j, none⟩ = some v := fun j v hv => (hk ⟨b, off + k * 3 + j, none⟩ hb).trans (hcell j v hv)
  exact ⟨b, off, S, X, n, c, X', n', c', rfl, hb, Lib.hid hu, hc 0 _ rfl, hc 1 _ rfl, hc 2 _ rfl⟩
mutual
theorem tot_lt {w : World} {B : Nat} : ∀ (a : Arr) (vs : List Value), IsArr w B a vs → tot a < 18446744073709551616
  | .mk S shape cells, vs, h => by
    rw [IsArr] at h
    obtain ⟨A, c, A', c', us, h1, h2, h3, h4, h5, h6, h7, h8⟩ := h
    exact totCels_lt cells us S h8 h2
theorem totCels_lt {w : World} {B : Nat} : ∀ (a : List Cel) (vs : List Value) (x : Nat), IsCels w B a vs → x < 18446744073709551616 → totCels x a < 18446744073709551616
  | [], vs, x, h, hx => by rw [totCels]; exact hx
  | c :: r, vs, x, h, hx => by
    rw [IsCels] at h
    obtain ⟨u, t, h1, h2, h3⟩ := h
    rw [totCels]
    exact totCels_lt r t _ h3 (totCel_lt c u x h2 hx)
theorem totCel_lt {w : World} {B : Nat} : ∀ (a : Cel) (vs : List Value) (x : Nat), IsCel w B a vs → x < 18446744073709551616 → totCel x a < 18446744073709551616
  | .mk L kind neg top bot ch ins, vs, x, h, hx => by
    rw [IsCel] at h
    obtain ⟨A, c, A', c', A2, c2, us, h1, h2, h3, h4, h5, h6, h7, h8, h9, h10, h11, h12⟩ := h
    rw [totCel]
    exact totArrs_lt ins us _ h12.1 (Nat.or_lt_two_pow (n := 64) hx h2)
theorem totArrs_lt {w : World} {B : Nat} : ∀ (a : List Arr) (vs : List Value) (x : Nat), IsArrs w B a vs → x < 18446744073709551616 → totArrs x a < 18446744073709551616
  | [], vs, x, h, hx => by rw [totArrs]; exact hx
  | c :: r, vs, x, h, hx => by
    rw [IsArrs] at h
    obtain ⟨u, t, h1, h2, h3⟩ := h
    rw [totArrs]
    exact totArrs_lt r t _ h3 (Nat.or_lt_two_pow (n := 64) hx (tot_lt c u h2))
end
theorem size_ins {S : Nat} {shape : List Int} {cells : List Cel} {k : Nat} (hk : k < cells.length) {L : Nat} {kind : Int} {neg : Bool} {top bot : List Nat} {ch : Int} {ins : List Arr} (he : cells[k] = .mk L kind neg top bot ch ins) {i : Nat} (hi : i < ins.length) :
    SizeOf.sizeOf ins[i] < SizeOf.sizeOf (Arr.mk S shape cells) := by
  have h1 := List.sizeOf_lt_of_mem (List.getElem_mem hi)
  have h2 := List.sizeOf_lt_of_mem (List.getElem_mem hk)
  rw [he] at h2
  simp only [Arr.mk.sizeOf_spec, Cel.mk.sizeOf_spec] at *
  omega
end Go.Proofs.YtfiefglagknclaaDoor

/-
  Lists compared: slices.Equal, and the reference's. (Printed by wip/bin/gen_same1.py.)
-/
namespace Go.Proofs.YtfiefglagknclaaDoor
open Go.RowKit Ar
set_option maxHeartbeats 1000000
set_option linter.unusedVariables false

theorem beq_at {α : Type} [BEq α] [LawfulBEq α] {l l' : List α} {k : Nat} (h : k < l.length) (h' : k < l'.length) (hne : l[k] ≠ l'[k]) : (l == l') = false := by
  rw [beq_eq_false_iff_ne]
  rintro rfl
  exact hne rfl
theorem beq_take {α : Type} [BEq α] [LawfulBEq α] {l l' : List α} {k : Nat} (hl : l.length = l'.length) (hk : k = l.length) (h : l.take k = l'.take k) : (l == l') = true := by
  rw [beq_iff_eq]
  rwa [hk, List.take_length, hl, List.take_length] at h
theorem beq_len {α : Type} [BEq α] [LawfulBEq α] {l l' : List α} (h : l.length ≠ l'.length) : (l == l') = false := by
  rw [beq_eq_false_iff_ne]
  rintro rfl
  exact h rfl
theorem take_more {α : Type} {l l' : List α} {k : Nat} (h : k < l.length) (h' : k < l'.length) (he : l.take k = l'.take k) (hk : l[k] = l'[k]) : l.take (k + 1) = l'.take (k + 1) := by
  rw [List.take_succ_eq_append_getElem h, List.take_succ_eq_append_getElem h', he, hk]
theorem below_drewN' {B : Nat} {w w' : World} (h : Below B w w') (n : Nat) : Below B w (w'.drewN n) := ⟨h.os, h.tape, h.output, h.size, h.block⟩
theorem lies_i64 {w : World} {B : Nat} {A : Option Addr} {l : List Int} (h : Lies w B A (I64 l)) {k : Nat} (hk : k < l.length) : ∃ b off, A = some ⟨b, off, none⟩ ∧ b < B ∧ w.cell? ⟨b, off + k, none⟩ = some (.int .i64 l[k]) := by
  obtain ⟨b, off, h1, h2, h3⟩ := h.at_ (k := k) (by simpa [I64] using hk)
  exact ⟨b, off, h1, h2, by rw [h3]; simp [I64]⟩
theorem lies_u32 {w : World} {B : Nat} {A : Option Addr} {l : List Nat} (h : Lies w B A (U32 l)) {k : Nat} (hk : k < l.length) : ∃ b off, A = some ⟨b, off, none⟩ ∧ b < B ∧ w.cell? ⟨b, off + k, none⟩ = some (.int .u32 (l[k] : Int)) := by
  obtain ⟨b, off, h1, h2, h3⟩ := h.at_ (k := k) (by simpa [U32] using hk)
  exact ⟨b, off, h1, h2, by rw [h3]; simp [U32]⟩

theorem refInts_any (l l' : List Int) (A A' : Option Addr) (c c' : Nat) (w : World) (B : Nat) (hA : Lies w B A (I64 l)) (hA' : Lies w B A' (I64 l')) (hn : l.length ≤ 9223372036854775807) (hn' : l'.length ≤ 9223372036854775807) :
    Calls Tryd.prog 110 #[.slice A l.length c, .slice A' l'.length c'] w fun e w' => e = .returned (.bool (l == l')) ∧ Below w.heap.size w w' := by
  have HA := Lib.hid hA
  have HA' := Lib.hid hA'
  clear hA hA'
  by_cases hne : l.length = l'.length
  · have hd : (l.length != l'.length) = false := by simpa using hne
    have hln : l.length ≤ l'.length := by omega
    have HN := Lib.hid hne
    clear hne
    go_enter Tryd.func110, Tryd.ntmps110
    go_wp2_with fail
    go_loopw [5] (fun i wr => ∃ k n : Nat, k ≤ l.length ∧ i = .int .i64 k ∧ wr = w.drewN n ∧ Hid (l.take k = l'.take k)) (fun i _ => l.length - (intOf i).toNat)
    case atStart => exact ⟨0, 0, Nat.zero_le _, rfl, rfl, Lib.hid rfl⟩
    case round =>
      obtain ⟨k, n, hk, rfl, rfl, HT⟩ := hrel
      by_cases hlt : k < l.length
      · have hlt' : k < l'.length := by omega
        obtain ⟨b, off, rfl, hb, g0⟩ := lies_i64 HA.out hlt
        obtain ⟨b', off', rfl, hb', g1⟩ := lies_i64 HA'.out hlt'
        have HM := Lib.hid (take_more hlt hlt' HT.out)
        have HZ := Lib.hid (beq_at (l := l) (l' := l') hlt hlt')
        generalize l[k] = x at g0 HM HZ
        generalize l'[k] = y at g1 HM HZ
        have hk0 : (0 : Int) ≤ (k : Int) := by omega
        have hk1 : (k : Int) < (l.length : Int) := by omega
        have hk2 : (k : Int) < (l'.length : Int) := by omega
        by_cases hxy : x = y
        · subst hxy
          have e1 : (x != x) = false := by simp
          have HM2 := Lib.hid (HM.out rfl)
          clear HM HZ
          go_wp2_with fail
          go_quiet (fail)
          go_wp2_with fail
          go_roundw
          case rel => exact ⟨k + 1, n + nq, by omega, by go_num, rfl, HM2⟩
          case measure => simp [intOf]; omega
        · have e1 : (x != y) = true := by simpa using hxy
          have HZ2 := Lib.hid (HZ.out hxy)
          skip
          clear HM HZ hxy
          go_wp2_with fail
          go_quiet (fail)
          go_wp2_with fail
          go_ret
          exact ⟨ret_bool (by rw [HZ2.out]), below_drewN' (below_drewN' (Below.refl _ _) _) _⟩
      · have hke : k = l.length := by omega
        have HZ2 := Lib.hid (beq_take HN.out hke HT.out)
        clear hke HT
        go_wp2_with fail
        go_ret
        exact ⟨ret_bool (by rw [HZ2.out]), below_drewN' (Below.refl _ _) _⟩
  · have hd : (l.length != l'.length) = true := by simpa using hne
    have HZ2 := Lib.hid (beq_len hne)
    clear hne
    go_enter Tryd.func110, Tryd.ntmps110
    go_wp2_with fail
    go_ret
    exact ⟨ret_bool (by rw [HZ2.out]), Below.refl _ _⟩

theorem refSame2_any (l l' : List Nat) (A A' : Option Addr) (c c' : Nat) (w : World) (B : Nat) (hA : Lies w B A (U32 l)) (hA' : Lies w B A' (U32 l')) (hn : l.length ≤ 9223372036854775807) (hn' : l'.length ≤ 9223372036854775807) :
    Calls Tryd.prog 36 #[.slice A l.length c, .slice A' l'.length c'] w fun e w' => e = .returned (.bool (l == l')) ∧ Below w.heap.size w w' := by
  have HA := Lib.hid hA
  have HA' := Lib.hid hA'
  clear hA hA'
  by_cases hne : l.length = l'.length
  · have hd : (l.length != l'.length) = false := by simpa using hne
    have hln : l.length ≤ l'.length := by omega
    have HN := Lib.hid hne
    clear hne
    go_enter Tryd.func36, Tryd.ntmps36
    go_wp2_with fail
    go_loopw [5] (fun i wr => ∃ k n : Nat, k ≤ l.length ∧ i = .int .i64 k ∧ wr = w.drewN n ∧ Hid (l.take k = l'.take k)) (fun i _ => l.length - (intOf i).toNat)
    case atStart => exact ⟨0, 0, Nat.zero_le _, rfl, rfl, Lib.hid rfl⟩
    case round =>
      obtain ⟨k, n, hk, rfl, rfl, HT⟩ := hrel
      by_cases hlt : k < l.length
      · have hlt' : k < l'.length := by omega
        obtain ⟨b, off, rfl, hb, g0⟩ := lies_u32 HA.out hlt
        obtain ⟨b', off', rfl, hb', g1⟩ := lies_u32 HA'.out hlt'
        have HM := Lib.hid (take_more hlt hlt' HT.out)
        have HZ := Lib.hid (beq_at (l := l) (l' := l') hlt hlt')
        generalize l[k] = x at g0 HM HZ
        generalize l'[k] = y at g1 HM HZ
        have hk0 : (0 : Int) ≤ (k : Int) := by omega
        have hk1 : (k : Int) < (l.length : Int) := by omega
        have hk2 : (k : Int) < (l'.length : Int) := by omega
        by_cases hxy : x = y
        · subst hxy
          have e1 : (x != x) = false := by simp
          have HM2 := Lib.hid (HM.out rfl)
          clear HM HZ
          go_wp2_with fail
          go_quiet (fail)
          go_wp2_with fail
          go_roundw
          case rel => exact ⟨k + 1, n + nq, by omega, by go_num, rfl, HM2⟩
          case measure => simp [intOf]; omega
        · have e1 : (x != y) = true := by simpa using hxy
          have HZ2 := Lib.hid (HZ.out hxy)
          have e2 : ((x : Int) != (y : Int)) = true := by simp; omega
          clear HM HZ hxy
          go_wp2_with fail
          go_quiet (fail)
          go_wp2_with fail
          go_ret
          exact ⟨ret_bool (by rw [HZ2.out]), below_drewN' (below_drewN' (Below.refl _ _) _) _⟩
      · have hke : k = l.length := by omega
        have HZ2 := Lib.hid (beq_take HN.out hke HT.out)
        clear hke HT
        go_wp2_with fail
        go_ret
        exact ⟨ret_bool (by rw [HZ2.out]), below_drewN' (Below.refl _ _) _⟩
  · have hd : (l.length != l'.length) = true := by simpa using hne
    have HZ2 := Lib.hid (beq_len hne)
    clear hne
    go_enter Tryd.func36, Tryd.ntmps36
    go_wp2_with fail
    go_ret
    exact ⟨ret_bool (by rw [HZ2.out]), Below.refl _ _⟩
end Go.Proofs.YtfiefglagknclaaDoor
