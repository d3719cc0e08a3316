/-
  Texts of this proof, joined (by wip/bin/bundle.py): NatTxt2, Tok3, Tok4, Tok5, Tok6, Dig5, Dig6, Dig7, Dig8.
-/
import Derived.Test.YtfiefglagknclaaDoorM7
import Derived.Lib.OthersKept
import Derived.Lib.RuneBytes
import Derived.Laws.BytesString
import Derived.Laws.IdiomStrings
import Derived.Deep.Cut
import Derived.Deep.QuietTactic
import Derived.BigQuiet
import Derived.IntWalk
/-
  What nat.Text computes.
-/
namespace Go.Proofs.YtfiefglagknclaaDoor
open Go.RowKit
set_option maxHeartbeats 1000000
set_option maxRecDepth 100000
set_option linter.unusedVariables false

theorem own_keep {w w' : World} {base n : Nat} {t : TypeId} {v : Value} {xs : List Value} (h : w.ownsRow base t 1 v n xs) (hk : ∀ g, base ≤ g → g < w.heap.size → w'.heap[g]? = w.heap[g]?) : w'.ownsRow base t 1 v n xs := by
  refine ⟨h.1, ?_⟩
  rcases h.2 with h2 | ⟨g, cap, cur, hv, hb, hg, hr⟩
  · exact .inl h2
  · refine .inr ⟨g, cap, cur, hv, hb, ?_, hr⟩
    rw [hk g hb (by
      rcases Nat.lt_or_ge g w.heap.size with h' | h'
      · exact h'
      · rw [Array.getElem?_eq_none h'] at hg; cases hg)]
    exact hg
theorem builder_below {w w' : World} {T e : TypeId} {B b : Nat} {bs : List Value} (h : Lib.IsBuilder T e B b bs w) (hb : Below w.heap.size w w') : Lib.IsBuilder T e B b bs w' := by
  have one : ∀ {p : Value}, Lib.BuilderAt T e B b p bs w → Lib.BuilderAt T e B b p bs w' := fun {p} k => by
    have hlt := k.lt
    obtain ⟨h1, v, h2, h3, h4⟩ := k
    exact ⟨h1, v, (hb.block b hlt).trans h2, own_keep h3 (fun g _ hg => hb.block g hg), h4⟩
  exact h.imp one one
theorem tabIs_below {P : Program} {w w' : World} {name : String} {k : IntKind} {zs : List Int} {B : Nat} (h : Lib.TabIs P w name k zs) (hb : Below B w w') (hg : ∀ g, P.globalNamed name = some g → g < B) : Lib.TabIs P w' name k zs := by
  unfold Lib.TabIs World.var? at *
  cases he : P.globalNamed name with
  | none => simp [he] at h
  | some g =>
    simp only [he, Option.bind_some] at h ⊢
    rw [hb.block g (hg g he)]
    exact h
def sliceLen : Value → Nat
  | .slice _ n _ => n
  | _ => 0
def grps (v i : Nat) : List Nat := (List.range i).map (Ten.grp v)
theorem grps_len (v i : Nat) : (grps v i).length = i := by simp [grps]
theorem grps_next (v i : Nat) : grps v (i + 1) = grps v i ++ [Ten.grp v i] := by simp [grps, List.range_succ]
theorem grps_at {v i j : Nat} (h : j < i) : (grps v i)[j]? = some (Ten.grp v j) := by
  rw [grps, List.getElem?_map, List.getElem?_range h]; rfl
theorem rounds_top (k : Nat) {v i : Nat} (hv : v < topE k) (h : 0 < v / 1000000000 ^ i) : 9 * i < 10 * (k + 1) := by
  rcases Nat.lt_or_ge (9 * i) (10 * (k + 1)) with h' | h'
  · exact h'
  · exfalso
    have h1 : (10 : Nat) ^ (10 * (k + 1)) ≤ 10 ^ (9 * i) := Nat.pow_le_pow_right (by omega) h'
    rw [Nat.pow_mul 10 9 i] at h1
    rw [Nat.div_eq_of_lt (Nat.lt_of_lt_of_le hv h1)] at h
    omega
theorem rounds_le {v i : Nat} (hv : v < topE 999) (h : 0 < v / 1000000000 ^ i) : i < 1112 := by
  have := rounds_top 999 hv h
  omega
theorem val_bound {l : List Nat} (ho : Nt.Ok l) (hs : l.length ≤ 1000) : Nt.val l < topE 999 := val_top 999 ho hs
theorem dec_short {m n : Nat} (h : m ≤ n) (hn : n < topE 999) : (Lib.decDigits m).length ≤ 10000 := dec_top 999 (Nat.lt_of_le_of_lt h hn)
theorem rep_eq : ∀ c, Lib.repeatL [48] c = List.replicate c 48
  | 0 => rfl
  | c + 1 => by rw [Lib.repeatL, rep_eq c, List.replicate_succ]; rfl
theorem div_pos_of {n i j : Nat} (h : 0 < n / 1000000000 ^ j) (hij : i ≤ j) : 0 < n / 1000000000 ^ i :=
  Nat.lt_of_lt_of_le h (Nat.div_le_div_left (Nat.pow_le_pow_right (by omega) hij) (Nat.pow_pos (by omega)))

theorem text_any (A : Option Addr) (c B : Nat) (l : List Nat) (w : World) (hl : Lies w B A (U l)) (hB : B ≤ w.heap.size) (ho : Nt.Ok l) (hc : l.length ≤ c) (hm : c ≤ 9223372036854775807) (hs : l.length ≤ 1000)
    (htab : Lib.TabIs Tryd.prog w "internal/strconv.uint64pow10" .u64 Lib.pow10Tab) (hg : ∀ g, Tryd.prog.globalNamed "internal/strconv.uint64pow10" = some g → g < w.heap.size) :
    Calls Tryd.prog 27 #[.slice A l.length c] w fun e w' => e = .returned (.string ⟨(Lib.decDigits (Nt.val l)).toArray⟩) ∧ Below w.heap.size w w' := by
  obtain ⟨i0, hi, hz0, hz1, hz2⟩ := info_parts u32_info
  have hdl := Nt.digs_len_le ho
  have hlen := dec_bound ho hs
  have hvb := Lib.hid (val_bound ho hs)
  have RN := Lib.hid (norm_any A c B l w hl hB ho hc hm (by omega))
  have HTAB := Lib.hid htab
  have HG := Lib.hid hg
  clear hl ho htab hg
  generalize Nt.val l = n at *
  go_enter Tryd.func27, Tryd.ntmps27
  go_wp2_with fail
  refine RN.out.mono ?_
  rintro e w1 ⟨rfl, hblk1, hb1⟩
  by_cases h0 : n = 0
  · subst h0
    rw [Nt.digs_zero]
    clear RN
    have HZ : Hid (Lib.decDigits 0 = [48]) := Lib.hid (Ten.dec_small (by omega))
    go_wp2_with fail
    go_ret
    rw [HZ.out]
    exact ⟨rfl, hb1⟩
  · have hne : (Nt.digs n).length ≠ 0 := fun e => h0 (Nt.digs_nil_iff.1 (List.eq_nil_of_length_eq_zero e))
    have hne2 : (((Nt.digs n).length : Int) == 0) = false := by rw [beq_eq_false_iff_ne]; omega
    clear RN
    have hsz1 := hblk1.lt
    go_wp2_with (at_make; refine wpList_make_blk _ rfl _ _ 22 rfl 70 i0 (.int .u32 0) Tryd.underlying22 hi hz0 hz1 rfl .i64 .i64 _ _ 0 ((Nt.digs n).length + (Nt.digs n).length / 8 + 1) rfl rfl rfl (by go_num) (by omega) (by rw [hz2]; omega) (by omega) w.heap.size w hb1 (by omega) ?_; intro w2 hblk2 hb2 hb2' hlt2)
    have hown2 : w2.ownsRow (w.heap.size + 1) 70 1 (.slice (some ⟨w1.heap.size, 0, none⟩) 0 ((Nt.digs n).length + (Nt.digs n).length / 8 + 1)) 0 [] := by
      have := hblk2.own (base := w.heap.size + 1) (n := 0) (by omega) (by omega) (by simp [maxLen]; omega)
      simpa using this
    have hblkG := hblk1.keep hb2' hsz1
    clear hblk1 hblk2 hb1 hb2' hlt2
    go_loopw [3, 4] (fun rv gv wr => ∃ (i y cc : Nat) (tl : List Value), i ≤ 1112 ∧ (Nt.digs y).length ≤ 1000 ∧ (Nt.digs y).length ≤ cc ∧ cc ≤ 1000 ∧ rv = .slice (some ⟨w.heap.size, 0, none⟩) (Nt.digs y).length cc ∧ Blk wr w.heap.size 70 (U (Nt.digs y) ++ tl) ∧ wr.ownsRow (w.heap.size + 1) 70 1 gv i (U (grps n i)) ∧ Below w.heap.size w wr ∧ Hid (y = n / 1000000000 ^ i ∧ (i = 0 ∨ 0 < n / 1000000000 ^ (i - 1)))) (fun _ gv _ => 1200 - sliceLen gv)
    case atStart => exact ⟨0, n, (Nt.digs n).length, [], by omega, by omega, Nat.le_refl _, by omega, rfl, by rw [List.append_nil]; exact hblkG, hown2, hb2, Lib.hid ⟨by simp, .inl rfl⟩⟩
    case round =>
      clear hown2 hblkG hb2 hne hne2
      obtain ⟨i, y, cc, tl, hi12, hyl, hycc, hcc, rfl, hblk, hown, hbel, H⟩ := hrel
      have hsz := hbel.size
      have hszG := hblk.lt
      obtain ⟨A2, C2, rfl, hC1, hC2⟩ := own_slice hown
      by_cases hy0 : y = 0
      · subst hy0
        rw [Nt.digs_zero]
        go_wp2_with fail
        have hip : 0 < i := by
          rcases Nat.eq_zero_or_pos i with e | e
          · have := H.out.1; rw [e] at this; simp at this; omega
          · exact e
        have HT0 : Hid (n / 1000000000 ^ i = 0 ∧ 0 < n / 1000000000 ^ (i - 1)) := Lib.hid ⟨H.out.1.symm, H.out.2.resolve_left (by omega)⟩
        have HLG := Lib.hid (Lies.of_own hown)
        have HTABW : Hid (∀ wq, Below wr.heap.size wr wq → Lib.TabIs Tryd.prog wq "internal/strconv.uint64pow10" .u64 Lib.pow10Tab) := Lib.hid (fun wq hq => tabIs_below (tabIs_below HTAB.out hbel HG.out) hq (fun g hg => Nat.lt_of_lt_of_le (HG.out g hg) hsz))
        have hbld0 : Lib.IsBuilder 96 5 wr.heap.size wr.heap.size (Lib.byteCells []) (wr.alloc (.cells #[.pointer none, .slice none 0 0] 96)) := .inl ⟨Nat.le_refl _, .slice none 0 0, heap_alloc_new wr _, World.ownsRow_nil _ _ _ _, by simp [Value.ownBlock]⟩
        have hbq0 : Below wr.heap.size wr (wr.alloc (.cells #[.pointer none, .slice none 0 0] 96)) := (Below.refl _ _).alloc (Nat.le_refl _) _
        clear hown hblk H
        rename World => W
        go_loopw [6] (fun iv wq => ∃ (k : Nat) (T : List UInt8), k ≤ i ∧ T.length ≤ 10000 ∧ iv = .int .i64 ((k : Int) - 1) ∧ Lib.IsBuilder 96 5 W.heap.size W.heap.size (Lib.byteCells T) wq ∧ Below W.heap.size W wq ∧ Hid ((k = i ∧ T = []) ∨ (k < i ∧ T = Lib.decDigits (n / 1000000000 ^ k)))) (fun iv _ => (intOf iv + 1).toNat)
        case atStart => exact ⟨i, [], Nat.le_refl _, by simp, rfl, hbld0, hbq0, Lib.hid (.inl ⟨rfl, rfl⟩)⟩
        case round =>
          clear hbld0 hbq0
          obtain ⟨k, T, hk, hTl, rfl, hbld, hbq, HK⟩ := hrel
          have hszq := hbq.size
          rcases k with _ | k
          · have HT : Hid (T = Lib.decDigits n) := Lib.hid (by
              rcases HK.out with ⟨e, _⟩ | ⟨_, e⟩
              · omega
              · rw [e, Nat.pow_zero, Nat.div_one])
            have BS := Lib.hid (Tryd.Builder_String_any W.heap.size W.heap.size T wr hbld hszq)
            clear hbld
            go_wp2_with (go_at_call 58; refine BS.out.mono ?_; rintro e w7 ⟨rfl, hb7⟩)
            go_ret
            rw [HT.out]
            exact ⟨rfl, hbel.trans ((hbq.trans hb7).mono hsz)⟩
          · have hk1 : ((k + 1 : Nat) : Int) - 1 = (k : Int) := by omega
            rw [hk1]
            clear hk1
            have hki : k < (grps n i).length := by rw [grps_len]; omega
            obtain ⟨b, off, rfl, hbb, hcell⟩ := (HLG.out.below hbq).limb hki
            have hget : (grps n i)[k] = Ten.grp n k := by
              have := grps_at (v := n) (show k < i by omega)
              rw [List.getElem?_eq_getElem hki] at this
              exact Option.some.inj this
            rw [hget] at hcell
            have hgl := Ten.grp_lt n k
            have HTOP : Hid (k + 1 = i → Lib.decDigits (Ten.grp n k) = Lib.decDigits (n / 1000000000 ^ k)) := Lib.hid (fun e => Ten.grp_top (by rw [e]; exact HT0.out.1))
            have HLOW : Hid (k + 1 < i → Lib.decDigits (n / 1000000000 ^ k) = Lib.decDigits (n / 1000000000 ^ (k + 1)) ++ (List.replicate (9 - (Lib.decDigits (Ten.grp n k)).length) 48 ++ Lib.decDigits (Ten.grp n k))) := Lib.hid (fun e => Ten.grp_low (div_pos_of HT0.out.2 (by omega)))
            have HSH : Hid ((Lib.decDigits (n / 1000000000 ^ k)).length ≤ 10000) := Lib.hid (dec_short (Nat.div_le_self _ _) hvb.out)
            have hD := Ten.dec_len (k := 8) (show Ten.grp n k < 10 ^ 9 by simpa using hgl)
            have FU := Lib.hid (formatUint_any (Ten.grp n k) wr (by omega) (HTABW.out wr hbq))
            generalize Ten.grp n k = gq at *
            obtain ⟨D, hDe⟩ : ∃ D, D = Lib.decDigits gq := ⟨_, rfl⟩
            rw [← hDe] at HTOP HLOW hD FU
            clear hDe hget hki
            by_cases hlow : k + 1 < i
            · have HTT : Hid (T ++ (List.replicate (9 - D.length) 48 ++ D) = Lib.decDigits (n / 1000000000 ^ k)) := Lib.hid (by
                rcases HK.out with ⟨e, _⟩ | ⟨_, e⟩
                · omega
                · rw [HLOW.out hlow, e])
              clear HTOP HLOW HK
              go_wp2_with fail
              refine FU.out.mono ?_
              rintro e w6 ⟨rfl, hb6⟩
              have hbld6 := builder_below hbld hb6
              have hbq6 : Below W.heap.size W w6 := hbq.trans (hb6.mono hszq)
              have hsz6 := hbq6.size
              clear hbld hb6
              go_wp2_with fail
              have HTL : Hid ((T ++ (List.replicate (9 - D.length) 48 ++ D)).length ≤ 10000) := Lib.hid (by rw [HTT.out]; exact HSH.out)
              have hci : (9 : Int) - (D.length : Int) = ((9 - D.length : Nat) : Int) := by omega
              rw [hci]
              have RP := Lib.hid (Tryd.strings_Repeat ⟨#[48]⟩ (9 - D.length) w6 (by omega) (by show 1 * (9 - D.length) ≤ _; omega))
              rw [show (⟨#[48]⟩ : ByteArray).data.toList = [48] from rfl, rep_eq] at RP
              obtain ⟨Z, hZ⟩ : ∃ Z, Z = List.replicate (9 - D.length) (48 : UInt8) := ⟨_, rfl⟩
              have hZl : Z.length ≤ 9 := by rw [hZ, List.length_replicate]; omega
              rw [← hZ] at RP HTL HTT
              clear hZ hci
              refine RP.out.mono ?_
              rintro e w8 ⟨rfl, hb8⟩
              have hbld8 := builder_below hbld6 hb8
              have hbq8 : Below W.heap.size W w8 := hbq6.trans (hb8.mono hsz6)
              have hsz8 := hbq8.size
              have WS1 := Lib.hid (writeString_any W.heap.size W.heap.size _ ⟨Z.toArray⟩ w8 hbld8 (by rw [Lib.byteCells_length]; show T.length + Z.length ≤ _; omega) hsz8)
              clear hbld6 hb8 hbld8
              go_wp2_with fail
              refine WS1.out.mono ?_
              rintro e w9 ⟨rfl, hbd9, hb9⟩
              have hbld9 : Lib.IsBuilder 96 5 W.heap.size W.heap.size (Lib.byteCells (T ++ Z)) w9 := .inr (by rw [Lib.byteCells_append]; exact hbd9)
              have hbq9 : Below W.heap.size W w9 := hbq8.trans hb9
              have hsz9 := hbq9.size
              have WS2 := Lib.hid (writeString_any W.heap.size W.heap.size _ ⟨D.toArray⟩ w9 hbld9 (by rw [Lib.byteCells_length, List.length_append]; show T.length + Z.length + D.length ≤ _; omega) hsz9)
              clear hbd9 hb9 hbld9
              go_wp2_with (go_at_call 57; refine WS2.out.mono ?_; rintro e w7 ⟨rfl, hbd7, hb7⟩)
              go_roundw
              case rel => exact ⟨_, _, _, _, _, _, _, _, _, _, _, _, _, _, _, _, _, _, _, _, _, _, _, _, ⟨k, T ++ (Z ++ D), by omega, HTL.out, by go_num, .inr (by rw [← List.append_assoc, Lib.byteCells_append]; exact hbd7), hbq9.trans hb7, Lib.hid (.inr ⟨by omega, HTT.out⟩)⟩, rfl⟩
              case measure => first | (simp [intOf]; done) | (simp [intOf]; omega)
            · have HTT : Hid (T ++ D = Lib.decDigits (n / 1000000000 ^ k)) := Lib.hid (by
                rcases HK.out with ⟨_, e⟩ | ⟨h, _⟩
                · rw [e, List.nil_append]; exact HTOP.out (by omega)
                · omega)
              have HTL : Hid ((T ++ D).length ≤ 10000) := Lib.hid (by rw [HTT.out]; exact HSH.out)
              clear HTOP HLOW HK
              go_wp2_with fail
              refine FU.out.mono ?_
              rintro e w6 ⟨rfl, hb6⟩
              have hbld6 := builder_below hbld hb6
              have hbq6 : Below W.heap.size W w6 := hbq.trans (hb6.mono hszq)
              have hsz6 := hbq6.size
              have WS := Lib.hid (writeString_any W.heap.size W.heap.size _ ⟨D.toArray⟩ w6 hbld6 (by rw [Lib.byteCells_length]; show T.length + D.length ≤ _; omega) hsz6)
              clear hbld hb6 hbld6
              go_wp2_with (go_at_call 57; refine WS.out.mono ?_; rintro e w7 ⟨rfl, hbd7, hb7⟩)
              go_roundw
              case rel => exact ⟨_, _, _, _, _, _, _, _, _, _, _, _, _, _, _, _, _, _, _, _, _, _, _, _, ⟨k, T ++ D, by omega, HTL.out, by go_num, .inr (by rw [Lib.byteCells_append]; exact hbd7), hbq6.trans hb7, Lib.hid (.inr ⟨by omega, HTT.out⟩)⟩, rfl⟩
              case measure => first | (simp [intOf]; done) | (simp [intOf]; omega)
      · have hypos : 0 < (Nt.digs y).length := Nat.pos_of_ne_zero (fun e => hy0 (Nt.digs_nil_iff.1 (List.eq_nil_of_length_eq_zero e)))
        have hi2 : i < 1112 := rounds_le hvb.out (by rw [← H.out.1]; omega)
        have SH := Lib.hid (shorten_any w.heap.size cc 1000000000 (Nt.digs y) tl wr hblk (Nt.ok_digs y) (by omega) (by omega) (by omega))
        rw [Nt.val_digs] at SH
        have HGR : Hid (y % 1000000000 = Ten.grp n i) := Lib.hid (by rw [H.out.1]; rfl)
        rw [HGR.out] at SH
        have hgl := Ten.grp_lt n i
        have HNX : Hid (y / 1000000000 = n / 1000000000 ^ (i + 1) ∧ (i + 1 = 0 ∨ 0 < n / 1000000000 ^ (i + 1 - 1))) := Lib.hid ⟨by rw [H.out.1, Ten.div_next], .inr (by rw [Nat.add_sub_cancel, ← H.out.1]; omega)⟩
        have HLQ : Hid ((Nt.digs (y / 1000000000)).length ≤ 1000) := Lib.hid (Nat.le_trans (Nt.digs_len_le_of (Nat.div_le_self y _)) hyl)
        obtain ⟨gq, hgq⟩ : ∃ gq, gq = Ten.grp n i := ⟨_, rfl⟩
        have HNG : Hid (grps n (i + 1) = grps n i ++ [gq]) := Lib.hid (by rw [hgq]; exact grps_next n i)
        rw [← hgq] at SH hgl
        clear hgq hblk HGR
        go_wp2_with fail
        refine SH.out.mono ?_
        rintro e w3 ⟨cur, rfl, hblk3, HC, hgr3⟩
        have hbel3 : Below w.heap.size w w3 := hbel.grown hgr3 hsz (fun k hk => by injection hk with hk; omega)
        have hown3 : w3.ownsRow (w.heap.size + 1) 70 1 (.slice A2 i C2) i (U (grps n i)) := own_keep hown (fun g hg hgs => hgr3.block g hgs (by intro e; injection e with e; omega))
        have hsz3 := hbel3.size
        have hlt3 := hblk3.lt
        clear hown hgr3
        go_wp2_with (at_builtin; refine wpList_append_own _ rfl _ _ 22 rfl (w.heap.size + 1) 70 i0 (.int .u32 0) 1 4 Tryd.underlying22 hi hz0 hz1 hz2 rfl (by decide) _ _ _ rfl (hown3.alloc _) ⟨_, 0, none⟩ 1 1 [.int .u32 (gq : Int)] rfl rfl (cell_one_new _ _ _) (by intro u hu; simp only [List.mem_singleton] at hu; subst hu; rfl) (by unfold maxLen; omega) (by omega) (by simp; omega) ?_; intro v4 w4 hown4 hgrow4 hnn4)
        have hb4 : Below w.heap.size w w4 := (hbel3.alloc hsz3 _).grown hgrow4 (by simp; omega) (fun k hk => by have := (hown3.lt k hk).1; omega)
        have hblk4 : Blk w4 w.heap.size 70 (U cur ++ tl) := (hblk3.alloc _).grown hgrow4 (by intro e; have := (hown3.lt _ e.symm).1; omega)
        have hcy : cur.length = (Nt.digs y).length := HC.out.1
        have hl4 : Lies w4 w4.heap.size (some ⟨w.heap.size, 0, none⟩) (U cur) := by
          have := (hblk4.lies).take cur.length
          rwa [List.take_append_of_le_length (by rw [U_len]; omega), List.take_of_length_le (by rw [U_len]; omega)] at this
        have TR := Lib.hid (trim_any (some ⟨w.heap.size, 0, none⟩) cc _ cur w4 hl4 HC.out.2.1 (by omega) (by omega))
        rw [HC.out.2.2, hcy] at TR
        have hblk5 : ∃ tl2, Blk w4 w.heap.size 70 (U (Nt.digs (y / 1000000000)) ++ tl2) := ⟨U (cur.drop (Nt.digs (Nt.val cur)).length) ++ tl, by
          have e : U cur = U (Nt.digs (y / 1000000000)) ++ U (cur.drop (Nt.digs (Nt.val cur)).length) := by
            have e0 : cur = Nt.digs (Nt.val cur) ++ cur.drop (Nt.digs (Nt.val cur)).length := by
              conv => lhs; rw [← List.take_append_drop (Nt.digs (Nt.val cur)).length cur, Nt.take_digs HC.out.2.1]
            have e1 := congrArg U e0
            rw [show U (Nt.digs (Nt.val cur) ++ cur.drop (Nt.digs (Nt.val cur)).length) = U (Nt.digs (Nt.val cur)) ++ U (cur.drop (Nt.digs (Nt.val cur)).length) from List.map_append] at e1
            rw [← HC.out.2.2]
            exact e1
          rw [← List.append_assoc, ← e]; exact hblk4⟩
        obtain ⟨tl2, hblk5⟩ := hblk5
        have hlq := HLQ.out
        clear hl4 hblk4 hblk3 HC HLQ hcy
        obtain ⟨A4, C4, rfl, hD1, hD2⟩ := own_slice hown4
        refine TR.out.mono ?_
        rintro e w5 ⟨rfl, rfl⟩
        go_wp2_with fail
        refine ⟨⟨i + 1, y / 1000000000, _, tl2, by omega, hlq, Nat.le_refl _, hlq, rfl, hblk5, ?_, hb4, HNX⟩, by simp [sliceLen]; omega⟩
        rw [HNG.out]
        simpa [U] using hown4
end Go.Proofs.YtfiefglagknclaaDoor

/-
  glyph.Decode: the characters of bytes.
-/
namespace Go.Proofs.YtfiefglagknclaaDoor
open Go.RowKit
set_option maxHeartbeats 2000000
set_option maxRecDepth 100000
set_option linter.unusedVariables false

theorem i64_info : (Tryd.prog.info? 3).map (fun i => (i.zero, i.size, i.bytes)) = some (some (.int .i64 0), 1, 8) := by kernel_rfl
/-- Characters in memory. -/
def IsCh (w : World) (v : Value) (l : List Int) : Prop := ∃ A c, v = .slice A l.length c ∧ l.length ≤ c ∧ c ≤ 9223372036854775807 ∧ Lies w w.heap.size A (I64 l)
theorem IsCh.below {w w' : World} {v : Value} {l : List Int} (h : IsCh w v l) (hb : Below w.heap.size w w') : IsCh w' v l := by
  obtain ⟨A, c, h1, h2, h3, h5⟩ := h
  exact ⟨A, c, h1, h2, h3, (h5.below hb).more hb.size⟩
theorem IsCh.of_own {w : World} {base : Nat} {v : Value} {l : List Int} (h : w.ownsRow base 3 1 v l.length (I64 l)) : IsCh w v l := by
  obtain ⟨A, c, rfl, h1, h2⟩ := own_slice h
  exact ⟨A, c, rfl, h1, h2, Lies.of_own h⟩
/-- The characters, and where there is none (-1: nowhere). -/
def ChOut (w : World) (l : List Int) (bad : Int) (e : Ending) (w' : World) : Prop := ∃ v, e = .returned (.tuple #[v, .int .i64 bad]) ∧ IsCh w' v l ∧ Below w.heap.size w w'
theorem I64_append (a : List Int) (x : Int) : I64 (a ++ [x]) = I64 a ++ [.int .i64 x] := by unfold I64; simp
theorem ext_list (s : ByteArray) (i : Nat) : (s.extract i s.size).data.toList = s.data.toList.drop i := by
  simp
  exact List.take_of_length_le (by simp)

theorem decode_any (s : ByteArray) (w : World) (hs : s.size ≤ 1000000) :
    Calls Tryd.prog 47 #[.string s] w (ChOut w (Gl.ints (Gl.dec s 0).1) (Gl.badI (Gl.dec s 0).2)) := by
  obtain ⟨i0, hi, hz0, hz1, hz2⟩ := info_parts i64_info
  have HPX := Lib.hid (fun (t : ByteArray) (wx : World) => Tryd.strings_HasPrefix t ⟨#[239, 191, 189]⟩ wx)
  have hit0 : (w.iter s 0).heap[w.heap.size]? = some (.stringIter s 0) := by simp [World.iter_heap]
  have hbi0 : Below w.heap.size w (w.iter s 0) := (Below.refl _ _).alloc (Nat.le_refl _) _
  have hszi : (w.iter s 0).heap.size = w.heap.size + 1 := by simp [World.iter]
  have HI0 := Lib.hid hit0
  have HSI := Lib.hid hszi
  clear hit0 hszi
  go_enter Tryd.func47, Tryd.ntmps47
  go_wp2_with fail
  go_loopw [4] (fun ov wr => ∃ (pos : Nat) (done : List Nat), Hid (wr.heap[w.heap.size]? = some (.stringIter s pos)) ∧ wr.ownsRow (w.heap.size + 1) 3 1 ov done.length (I64 (Gl.ints done)) ∧ Below w.heap.size w wr ∧ w.heap.size + 1 ≤ wr.heap.size ∧ Hid (Gl.DecAt s pos done)) (fun _ wr => s.size - wr.iterPos w.heap.size)
  case atStart => exact ⟨0, [], HI0, World.ownsRow_nil _ _ _ _, hbi0, by rw [HSI.out]; exact Nat.le_refl _, Lib.hid (Gl.DecAt.start s)⟩
  case round =>
    clear hbi0
    obtain ⟨pos, done, HIT, hown, hbel, hsz, H⟩ := hrel
    have hdl := H.out.len
    have hIP : wr.iterPos w.heap.size = pos := by unfold World.iterPos; rw [HIT.out]
    have HIP := Lib.hid hIP
    clear hIP
    by_cases hp : pos < s.size
    · have hnx : ∀ ty, (Instr.next (.pointer (some ⟨w.heap.size, 0, none⟩)) true ty).run Tryd.prog wr = _ := fun ty => Lib.run_next_any_at wr w.heap.size s pos ty HIT.out hp
      have HPX2 := Lib.hid (by have := HPX.out (s.extract pos s.size); rw [ext_list] at this; exact this)
      cases hr : Gl.read s pos with
      | none =>
        obtain ⟨hd, hpre⟩ := Gl.sub_no hp hr
        have HB := Lib.hid (H.out.bad hp hr)
        have HPX3 := Lib.hid (fun wx => by have := HPX2.out wx; rw [hpre] at this; exact this)
        rw [hd] at hnx
        obtain ⟨W2, hW2⟩ : ∃ W2, W2 = wr.iterAt w.heap.size s (pos + 1) := ⟨_, rfl⟩
        have hown2 : W2.ownsRow (w.heap.size + 1) 3 1 u4 done.length (I64 (Gl.ints done)) := by
          rw [hW2]; exact own_keep hown (fun g hg _ => Lib.iterAt_other _ _ _ _ _ (by omega))
        have hbel2 : Below w.heap.size w W2 := by rw [hW2]; exact Lib.below_iterAt hbel (Nat.le_refl _) _ _
        have HL := Lib.hid (IsCh.of_own (by rw [show (Gl.ints done).length = done.length by simp [Gl.ints]]; exact hown2))
        simp only [← hW2] at hnx
        have HNE : Hid (Gl.ints (Gl.dec s 0).1 = Gl.ints done ∧ Gl.badI (Gl.dec s 0).2 = (pos : Int)) := Lib.hid (by rw [HB.out]; exact ⟨rfl, rfl⟩)
        have hps : pos ≤ s.size := by omega
        clear hd hpre hr HPX2 hown hbel hW2 H hown2
        go_wp2_with fail
        refine (HPX3.out _).mono ?_
        rintro e w' ⟨rfl, rfl⟩
        go_wp2_with fail
        go_ret2
        exact ⟨_, by rw [HNE.out.2]; rfl, by rw [HNE.out.1]; exact HL.out, hbel2⟩
      | some p =>
        obtain ⟨c, n⟩ := p
        obtain ⟨hd, hpre⟩ := Gl.sub_yes hp hr
        have hpos := Gl.read_pos hr
        have HST := Lib.hid (H.out.step hp hr)
        have hmay := Gl.read_may hp hr
        have hc : c ≤ 1114111 := by unfold Gl.may at hmay; simp at hmay; omega
        have HPX3 := Lib.hid (fun wx => by have := HPX2.out wx; exact this)
        rw [hd] at hnx
        obtain ⟨W2, hW2⟩ : ∃ W2, W2 = wr.iterAt w.heap.size s (pos + n) := ⟨_, rfl⟩
        have hown2 : W2.ownsRow (w.heap.size + 1) 3 1 u4 done.length (I64 (Gl.ints done)) := by
          rw [hW2]; exact own_keep hown (fun g hg _ => Lib.iterAt_other _ _ _ _ _ (by omega))
        have hbel2 : Below w.heap.size w W2 := by rw [hW2]; exact Lib.below_iterAt hbel (Nat.le_refl _) _ _
        have HIT2 : Hid (W2.heap[w.heap.size]? = some (.stringIter s (pos + n))) := Lib.hid (by rw [hW2]; exact Lib.iterAt_heap _ _ _ _ _ HIT.out)
        have hsz2 : w.heap.size + 1 ≤ W2.heap.size := by rw [hW2, Lib.iterAt_size]; exact hsz
        simp only [← hW2] at hnx
        have hps : pos ≤ s.size := by omega
        obtain ⟨A2, C2, rfl, hC1, hC2⟩ := own_slice hown2
        have hlen : (I64 (Gl.ints done)).length = done.length := by simp [I64, Gl.ints]
        have HAP : Hid (I64 (Gl.ints (done ++ [c])) = I64 (Gl.ints done) ++ [.int .i64 (c : Int)]) := Lib.hid (by unfold Gl.ints; rw [List.map_append, List.map_singleton, I64_append])
        clear hd hr HPX2 hown hbel hW2 H hmay HIT
        by_cases hce : c = 65533
        · have hp2 := hpre hce
          have q : ((c : Int) == 65533) = true := by rw [hce]; rfl
          have HPX4 := Lib.hid (fun wx => by have := HPX3.out wx; rw [hp2] at this; exact this)
          clear hce hpre hp2 HPX3
          go_wp2_with fail
          refine (HPX4.out _).mono ?_
          rintro e w' ⟨rfl, rfl⟩
          go_wp2_with (at_builtin; refine wpList_append_own _ rfl _ _ 35 rfl (w.heap.size + 1) 3 i0 (.int .i64 0) 1 8 Tryd.underlying35 hi hz0 hz1 hz2 rfl (by decide) _ _ _ rfl (hown2.alloc _) ⟨_, 0, none⟩ 1 1 [.int .i64 (c : Int)] rfl rfl (cell_one_new _ _ _) (by intro u hu; simp only [List.mem_singleton] at hu; subst hu; rfl) (by unfold maxLen; omega) (by omega) (by simp; omega) ?_; intro v3 w3 hown3 hgrow3 hnn3)
          have hbel3 : Below w.heap.size w w3 := (hbel2.alloc hbel2.size _).grown hgrow3 (by simp; omega) (fun k hk => by have := (hown2.lt k hk).1; omega)
          have HIT3 : Hid (w3.heap[w.heap.size]? = some (.stringIter s (pos + n))) := Lib.hid (by
            have hlt := blk_lt HIT2.out
            rw [hgrow3.block w.heap.size (by simp; omega) (fun e => by have := (hown2.lt _ e.symm).1; omega)]
            exact (Below.heap_alloc _ _ _ hlt).trans HIT2.out)
          have hsz3 : w.heap.size + 1 ≤ w3.heap.size := by have := hgrow3.size; simp at this; omega
          go_roundw
          case rel => exact ⟨pos + n, done ++ [c], HIT3, by rw [HAP.out]; simpa using hown3, hbel3, hsz3, HST⟩
          case measure =>
            have h1 : w3.iterPos w.heap.size = pos + n := by unfold World.iterPos; rw [HIT3.out]
            have h2 := HIP.out
            simp only [h1, h2]
            omega
        · have q : ((c : Int) == 65533) = false := beq_eq_false_iff_ne.2 (by omega)
          clear hce hpre HPX3
          go_wp2_with (at_builtin; refine wpList_append_own _ rfl _ _ 35 rfl (w.heap.size + 1) 3 i0 (.int .i64 0) 1 8 Tryd.underlying35 hi hz0 hz1 hz2 rfl (by decide) _ _ _ rfl (hown2.alloc _) ⟨_, 0, none⟩ 1 1 [.int .i64 (c : Int)] rfl rfl (cell_one_new _ _ _) (by intro u hu; simp only [List.mem_singleton] at hu; subst hu; rfl) (by unfold maxLen; omega) (by omega) (by simp; omega) ?_; intro v3 w3 hown3 hgrow3 hnn3)
          have hbel3 : Below w.heap.size w w3 := (hbel2.alloc hbel2.size _).grown hgrow3 (by simp; omega) (fun k hk => by have := (hown2.lt k hk).1; omega)
          have HIT3 : Hid (w3.heap[w.heap.size]? = some (.stringIter s (pos + n))) := Lib.hid (by
            have hlt := blk_lt HIT2.out
            rw [hgrow3.block w.heap.size (by simp; omega) (fun e => by have := (hown2.lt _ e.symm).1; omega)]
            exact (Below.heap_alloc _ _ _ hlt).trans HIT2.out)
          have hsz3 : w.heap.size + 1 ≤ w3.heap.size := by have := hgrow3.size; simp at this; omega
          go_roundw
          case rel => exact ⟨pos + n, done ++ [c], HIT3, by rw [HAP.out]; simpa using hown3, hbel3, hsz3, HST⟩
          case measure =>
            have h1 : w3.iterPos w.heap.size = pos + n := by unfold World.iterPos; rw [HIT3.out]
            have h2 := HIP.out
            simp only [h1, h2]
            omega
    · have hnx : ∀ ty, (Instr.next (.pointer (some ⟨w.heap.size, 0, none⟩)) true ty).run Tryd.prog wr = _ := fun ty => Lib.run_next_end_at wr w.heap.size s pos ty HIT.out hp
      have HB := Lib.hid (H.out.done hp)
      have HNE : Hid (Gl.ints (Gl.dec s 0).1 = Gl.ints done ∧ Gl.badI (Gl.dec s 0).2 = -1) := Lib.hid (by rw [HB.out]; exact ⟨rfl, rfl⟩)
      have HL := Lib.hid (IsCh.of_own (by rw [show (Gl.ints done).length = done.length by simp [Gl.ints]]; exact hown))
      clear hown H
      go_wp2_with fail
      go_ret2
      exact ⟨_, by rw [HNE.out.2]; rfl, by rw [HNE.out.1]; exact HL.out, hbel⟩
end Go.Proofs.YtfiefglagknclaaDoor

/-
  glyph.Encode: the bytes of characters that may be.
-/
namespace Go.Proofs.YtfiefglagknclaaDoor
open Go.RowKit
set_option maxHeartbeats 2000000
set_option maxRecDepth 100000
set_option linter.unusedVariables false

/-- A character's bytes, as cells. -/
theorem runeCells_one {x : Int} (h : Gl.may x = true) : Lib.runeCells x = Lib.byteCells (Tk.enc1 x) := by
  unfold Gl.may at h
  simp only [Bool.and_eq_true, Bool.or_eq_true, decide_eq_true_eq] at h
  obtain ⟨⟨h0, h1⟩, h2⟩ := h
  obtain ⟨n, rfl⟩ : ∃ n : Nat, x = (n : Int) := ⟨x.toNat, by omega⟩
  unfold Lib.runeCells Lib.byteCells Tk.enc1 Gl.one
  rw [Int.toNat_natCast]
  by_cases a : n < 128
  · rw [if_pos a, Lib.encodeRuneZ_one (by omega) (by omega)]
    simp
    omega
  · rw [if_neg a]
    by_cases b : n < 2048
    · rw [if_pos b, Lib.encodeRuneZ_two (by omega) (by omega)]
      simp
      omega
    · rw [if_neg b]
      by_cases c : n < 65536
      · rw [if_pos c, Lib.encodeRuneZ_three (by omega)]
        simp
        omega
      · rw [if_neg c, Lib.encodeRuneZ_four (by omega) (by omega)]
        simp
        omega
theorem enc_snoc (l : List Int) (x : Int) : Tk.enc (l ++ [x]) = Tk.enc l ++ Tk.enc1 x := by unfold Tk.enc; simp
theorem enc1_len (x : Int) : (Tk.enc1 x).length ≤ 4 := by unfold Tk.enc1; rw [List.length_map, Gl.one_len]; unfold Gl.wide; split <;> (try omega); split <;> (try omega); split <;> omega
theorem enc_len : ∀ l : List Int, (Tk.enc l).length ≤ 4 * l.length
  | [] => by simp [Tk.enc]
  | a :: r => by
    have h1 := enc1_len a
    have h2 := enc_len r
    unfold Tk.enc at h2 ⊢
    rw [List.flatMap_cons, List.length_append, List.length_cons]
    omega
theorem u8_info : (Tryd.prog.info? 5).map (fun i => (i.zero, i.size, i.bytes)) = some (some (.int .u8 0), 1, 1) := by kernel_rfl

/-- 'string(b)' of bytes that a call owns. -/
theorem conv_own {w : World} {base : Nat} {v : Value} {t : List UInt8} (h : w.ownsRow base 5 1 v t.length (Lib.byteCells t)) : (convert 94 9 v).run Tryd.prog w = .ok (.string ⟨t.toArray⟩) w := by
  obtain ⟨A, C, rfl, hC1, hC2⟩ := own_slice h
  have hl := Lies.of_own h
  by_cases h0 : t = []
  · subst h0
    cases A with
    | none => rw [run_convert_bytes_string w 94 9 5 none _ _ Tryd.underlying94 Tryd.underlying5 Tryd.underlying9]; rfl
    | some a => exact run_convert_bytes_back w 94 9 5 a C [] Tryd.underlying94 Tryd.underlying5 Tryd.underlying9 (fun j hj => by cases hj)
  · have hp : 0 < t.length := List.length_pos_iff.2 h0
    obtain ⟨b, off, hA, hb, g0⟩ := hl.at_ (k := 0) (by rw [Lib.byteCells_length]; exact hp)
    subst hA
    refine run_convert_bytes_back w 94 9 5 _ C t Tryd.underlying94 Tryd.underlying5 Tryd.underlying9 (fun j hj => ?_)
    obtain ⟨b', off', hA', hb', g'⟩ := hl.at_ (k := j) (by rw [Lib.byteCells_length]; exact hj)
    injection hA' with hA'
    injection hA' with e1 e2
    subst e1 e2
    rw [Addr.add_lit, g']
    simp [Lib.byteCells]

theorem encode_any (A : Option Addr) (c : Nat) (l : List Int) (w : World) (hl : Lies w w.heap.size A (I64 l)) (hn : l.length ≤ 1000000) (hm : ∀ x ∈ l, Gl.may x = true) :
    Calls Tryd.prog 114 #[.slice A l.length c] w fun e w' => e = .returned (.tuple #[.string ⟨(Tk.enc l).toArray⟩, .bool true]) ∧ Below w.heap.size w w' := by
  obtain ⟨i0, hi, hz0, hz1, hz2⟩ := info_parts u8_info
  have HL := Lib.hid hl
  have HM := Lib.hid hm
  clear hl hm
  go_enter Tryd.func114, Tryd.ntmps114
  go_wp2_with (at_make; refine wpList_make_blk _ rfl _ _ 94 rfl 5 i0 (.int .u8 0) Tryd.underlying94 hi hz0 hz1 rfl .i64 .i64 _ _ 0 l.length rfl rfl rfl rfl (by omega) (by rw [hz2]; omega) (by omega) w.heap.size w (Below.refl _ _) (Nat.le_refl _) ?_; intro w2 hblk2 hb2 hb2' hlt2)
  have hown2 : w2.ownsRow w.heap.size 5 1 (.slice (some ⟨w.heap.size, 0, none⟩) 0 l.length) 0 [] := by
    have := hblk2.own (base := w.heap.size) (n := 0) (Nat.le_refl _) (by omega) (by simp [maxLen]; omega)
    simpa using this
  clear hblk2 hb2' hlt2
  go_loopw [4, 12] (fun ov iv wr => ∃ i : Nat, i ≤ l.length ∧ iv = .int .i64 (i : Int) ∧ wr.ownsRow w.heap.size 5 1 ov (Tk.enc (l.take i)).length (Lib.byteCells (Tk.enc (l.take i))) ∧ Below w.heap.size w wr) (fun _ iv _ => l.length - (intOf iv).toNat)
  case atStart => exact ⟨0, Nat.zero_le _, rfl, hown2, hb2⟩
  case round =>
    clear hown2 hb2
    obtain ⟨i, hil, rfl, hown, hbel⟩ := hrel
    have hsz := hbel.size
    by_cases hlt : i < l.length
    · obtain ⟨b, off, rfl, hb, g0⟩ := lies_i64 (HL.out.below hbel) hlt
      have hmx := HM.out l[i] (List.getElem_mem hlt)
      have HT : Hid (Tk.enc (l.take (i + 1)) = Tk.enc (l.take i) ++ Tk.enc1 l[i]) := Lib.hid (by rw [List.take_succ_eq_append_getElem hlt, enc_snoc])
      have HRC := Lib.hid (runeCells_one hmx)
      have hel := enc_len (l.take i)
      have htl : (l.take i).length ≤ i := List.length_take_le _ _
      obtain ⟨x, hx⟩ : ∃ x, x = l[i] := ⟨_, rfl⟩
      rw [← hx] at g0 hmx HT HRC
      have MY := may_any x
      rw [hmx] at MY
      have HMY := Lib.hid MY
      have hx0 : 0 ≤ x := by unfold Gl.may at hmx; simp at hmx; omega
      have hx1 : x ≤ 1114111 := by unfold Gl.may at hmx; simp at hmx; omega
      obtain ⟨T, hT⟩ : ∃ T, T = Tk.enc (l.take i) := ⟨_, rfl⟩
      rw [← hT] at hown HT hel
      have AR := Lib.hid (fun (h : wr.ownsRow w.heap.size 5 1 u4 T.length (Lib.byteCells T)) => Tryd.utf8_AppendRune_plain w.heap.size u4 T.length (Lib.byteCells T) x (by omega) (by omega) wr h (by omega) hsz)
      have AR2 := Lib.hid (AR.out hown)
      have HOW := Lib.hid hown
      obtain ⟨A2, C2, rfl, hC1, hC2⟩ := own_slice hown
      clear hx MY hmx hT AR hown
      go_wp2_with fail
      refine (HMY.out _).mono ?_
      rintro e w' ⟨rfl, rfl⟩
      go_wp2_with fail
      refine AR2.out.mono ?_
      rintro e w3 ⟨v3, rfl, hown3, o, hgr⟩
      have hbel3 : Below w.heap.size w w3 := (hbel.alloc hsz o).grown hgr (by simp; omega) (fun k hk => (HOW.out.lt k hk).1)
      have hown4 : w3.ownsRow w.heap.size 5 1 v3 (Tk.enc (l.take (i + 1))).length (Lib.byteCells (Tk.enc (l.take (i + 1)))) := by
        rw [HT.out, List.length_append, Lib.byteCells_append, ← HRC.out, ← Lib.byteCells_length (Tk.enc1 x), ← HRC.out]
        exact hown3
      clear hown3 hgr AR2
      go_wp2_with fail
      go_roundw
      case rel => exact ⟨i + 1, by omega, by go_num, hown4, hbel3⟩
      case measure => simp [intOf]; omega
    · have e : l.take i = l := List.take_of_length_le (by omega)
      rw [e] at hown
      have hcv := conv_own hown
      obtain ⟨A2, C2, rfl, hC1, hC2⟩ := own_slice hown
      clear hown e
      go_wp2_with fail
      go_ret2
      exact ⟨rfl, hbel⟩
end Go.Proofs.YtfiefglagknclaaDoor

/-
  token.name: the token of a name.
-/
namespace Go.Proofs.YtfiefglagknclaaDoor
open Go.RowKit
set_option maxHeartbeats 4000000
set_option maxRecDepth 100000
set_option linter.unusedVariables false

theorem tok_info : (Tryd.prog.info? 48).map (·.size) = some 8 := by kernel_rfl
/-- A token's row. -/
def tokCells (k : Int) (neg : Bool) (n1 n2 lv : Value) (s : List UInt8) (c a : Int) : List Value := [.int .i64 k, .bool neg, n1, n2, lv, .string ⟨s.toArray⟩, .int .i64 c, .int .i64 a]
/-- A token (where it begins is not yet told), where it ends, and the error. -/
def TokOut (w : World) (t : Tk.Tok) (en : Nat) (er : Int) (e : Ending) (w' : World) : Prop :=
  ∃ n1 n2 lv, e = .returned (.tuple #[.agg (tokCells t.kind t.n.neg n1 n2 lv t.s t.c 0).toArray, .int .i64 (en : Int), .int .i64 er]) ∧ IsRes w' n1 t.n.top ∧ IsRes w' n2 t.n.bot ∧ w'.ownsRow 0 3 1 lv t.l.length (I64 t.l) ∧ Below w.heap.size w w'
theorem isCh_nil (w : World) : IsCh w (.slice none 0 0) [] := ⟨none, 0, rfl, Nat.le_refl _, by omega, .inl rfl⟩
theorem takeWhile_at (p : Int → Bool) : ∀ (l : List Int) (j : Nat), p (-1) = false → j ≤ (l.takeWhile p).length → (p (l.getD j (-1)) = true ↔ j < (l.takeWhile p).length)
  | [], j, hp, h => by
    have : j = 0 := by simpa using h
    subst this
    simp [hp]
  | a :: r, 0, hp, h => by
    rw [List.takeWhile_cons]
    cases ha : p a <;> simp [ha]
  | a :: r, j + 1, hp, h => by
    rw [List.takeWhile_cons] at h ⊢
    cases ha : p a
    · rw [ha] at h; simp at h
    · rw [ha] at h
      simp only [if_true, List.length_cons] at h ⊢
      have := takeWhile_at p r j hp (by omega)
      rw [show (a :: r).getD (j + 1) (-1) = r.getD j (-1) from rfl, this]
      omega
theorem drop_getD (l : List Int) (i j : Nat) : (l.drop i).getD j (-1) = l.getD (i + j) (-1) := by
  rw [List.getD_eq_getElem?_getD, List.getD_eq_getElem?_getD, List.getElem?_drop]
theorem words_at {l : List Int} {i j : Nat} (h : j ≤ Tk.words l i) : Tk.word (l.getD (i + j) (-1)) = true ↔ j < Tk.words l i := by
  unfold Tk.words at h ⊢
  rw [← drop_getD]
  exact takeWhile_at _ _ _ (by decide) h
theorem figures_at {l : List Int} {i j : Nat} (h : j ≤ Tk.figures l i) : Tk.digit (l.getD (i + j) (-1)) = true ↔ j < Tk.figures l i := by
  unfold Tk.figures at h ⊢
  rw [← drop_getD]
  exact takeWhile_at _ _ _ (by decide) h
theorem lies_cut {w : World} {B : Nat} {A : Option Addr} {l : List Int} (h : Lies w B A (I64 l)) (i n : Nat) (hin : i + n ≤ l.length) : ∀ A', (∀ b off, A = some ⟨b, off, none⟩ → A' = some ⟨b, off + i, none⟩) → Lies w B A' (I64 ((l.drop i).take n)) := by
  intro A' hA'
  by_cases h0 : n = 0
  · subst h0
    simp only [List.take_zero]
    exact .inl rfl
  · obtain ⟨b, off, e, hb, g0⟩ := lies_i64 h (k := i) (by omega)
    refine .inr ⟨b, off + i, hA' b off e, hb, fun k v hv => ?_⟩
    have hk : k < n := by
      rcases Nat.lt_or_ge k n with h' | h'
      · exact h'
      · rw [List.getElem?_eq_none (by simp [I64]; omega)] at hv; cases hv
    obtain ⟨b', off', e', hb', g'⟩ := lies_i64 h (k := i + k) (by omega)
    rw [e] at e'
    injection e' with e'
    injection e' with e1 e2
    subst e1 e2
    rw [show off + i + k = off + (i + k) by omega, g']
    rw [← hv]
    unfold I64
    rw [List.getElem?_map, List.getElem?_take, if_pos hk, List.getElem?_drop, List.getElem?_eq_getElem (by omega)]
    rfl
end Go.Proofs.YtfiefglagknclaaDoor

/-
  token.name: the token of a name.
-/
namespace Go.Proofs.YtfiefglagknclaaDoor
open Go.RowKit
set_option maxHeartbeats 4000000
set_option maxRecDepth 100000
set_option linter.unusedVariables false

/-- What is read at a place, as the program tells it. -/
def ReadOut (w : World) (l : List Int) (i : Nat) : Ending → World → Prop := TokOut w (Tk.read l i).1 (if (Tk.read l i).2.2 = 0 then i + (Tk.read l i).2.1 else 0) (Tk.read l i).2.2
theorem tok_one (k c a : Int) (neg : Bool) (a1 a2 a3 : Option Addr) (m1 c1 m2 c2 m3 c3 : Nat) (s : ByteArray) : (#[.int .i64 k, .bool neg, .slice a1 m1 c1, .slice a2 m2 c2, .slice a3 m3 c3, .string s, .int .i64 c, .int .i64 a] : Array Value).all (·.oneCell') = true := by
  simp [Value.oneCell']
theorem tok_infoR (x0 x1 x2 x3 x4 x5 x6 x7 : Value) : (Tryd.prog.info? 48).map (·.size) = some (#[x0, x1, x2, x3, x4, x5, x6, x7] : Array Value).size := tok_info
theorem results_cell_row_tmp2 {P : Program} {fn : Func} {p q r : Tmp} {ty : TypeId} (h : fn.results = #[.cell p ty, .tmp q, .tmp r]) (tmps : Array Value) (w : World) (g : Nat) (t : TypeId) (cs : Array Value) (fr : Nat × Nat) (d : TypeDesc) (u v : Value)
    (hp : tmps.getD p undef = .pointer (some ⟨g, 0, none⟩)) (hq : tmps.getD q undef = u) (hr : tmps.getD r undef = v) (hg : w.heap[g]? = some (.cells cs t fr))
    (hu : P.underlying ty = some d) (hd : (match d with | .struct _ | .array _ _ => true | _ => false) = true) (hi : (P.info? ty).map (·.size) = some cs.size) :
    (results fn tmps).run P w = .ok (.tuple #[.agg cs, u, v]) w := by
  have hp' : tmps[p]?.getD undef = .pointer (some ⟨g, 0, none⟩) := by simpa using hp
  have hq' : tmps[q]?.getD undef = u := by simpa using hq
  have hr' : tmps[r]?.getD undef = v := by simpa using hr
  simp [results, h, hp', hq', hr', asAddr, run_loadVar_row w g t ty cs fr d hg hu hd hi]
theorem read_name {l : List Int} {i : Nat} (hc : Tk.cls (l.getD i (-1)) = 2) : Tk.read l i = if 16 < Tk.words l i then (Tk.none_, 0, 1) else (⟨if l.getD i (-1) ≤ 90 then 3 else 2, Rt.none_, [], Tk.enc ((l.drop i).take (Tk.words l i)), 0, i⟩, Tk.words l i, 0) := by
  unfold Tk.read
  simp only
  rw [if_neg (by rw [hc]; decide), if_pos hc]
theorem cls2_range {x : Int} (h : Tk.cls x = 2) : 65 ≤ x ∧ (x ≤ 90 ∨ 90 < x) := by
  unfold Tk.cls at h
  split at h
  · cases h
  · split at h
    · omega
    · exfalso
      repeat' split at h
      all_goals (first | cases h | omega)

theorem name_any (A : Option Addr) (c : Nat) (l : List Int) (i : Nat) (w : World) (hl : Lies w w.heap.size A (I64 l)) (hn : l.length ≤ 100000) (hcap : l.length ≤ c) (hm : ∀ x ∈ l, Gl.may x = true) (hi : i < l.length) (hc : Tk.cls (l.getD i (-1)) = 2) :
    Calls Tryd.prog 87 #[.slice A l.length c, .int .i64 (i : Int)] w (ReadOut w l i) := by
  have HRD := Lib.hid (read_name hc)
  have HR : Hid (∀ e w', TokOut w (Tk.read l i).1 (if (Tk.read l i).2.2 = 0 then i + (Tk.read l i).2.1 else 0) (Tk.read l i).2.2 e w' → ReadOut w l i e w') := Lib.hid (fun e w' h => h)
  obtain ⟨W, hW⟩ : ∃ W, W = w.alloc (.cells #[.int .i64 0, .bool false, .slice none 0 0, .slice none 0 0, .slice none 0 0, .string ⟨#[]⟩, .int .i64 0, .int .i64 0] 48) := ⟨_, rfl⟩
  have hb0 : Below w.heap.size w W := by rw [hW]; exact (Below.refl _ _).alloc (Nat.le_refl _) _
  have HGA : Hid (W.heap[w.heap.size]? = some (.cells #[.int .i64 0, .bool false, .slice none 0 0, .slice none 0 0, .slice none 0 0, .string ⟨#[]⟩, .int .i64 0, .int .i64 0] 48 (0, 0))) := Lib.hid (by rw [hW]; exact heap_alloc_new w _)
  have HWS : Hid (W.heap.size = w.heap.size + 1) := Lib.hid (by rw [hW]; simp)
  have hlW : Lies W W.heap.size A (I64 l) := (hl.below hb0).more hb0.size
  have LT := Lib.hid (fun (m : Nat) (h : m ≤ 1000000) => letter_any A c l m W hlW (by omega) h)
  have DG := Lib.hid (fun (m : Nat) (h : m ≤ 1000000) => digit_any A c l m W hlW (by omega) h)
  have hwl := Tk.words_le l i
  have HWA := Lib.hid (fun (j : Nat) (h : j ≤ Tk.words l i) => words_at (l := l) (i := i) h)
  have HWP : Hid (0 < Tk.words l i) := Lib.hid (Tk.words_pos hi (by unfold Tk.word; rw [hc]; simp))
  have HL := Lib.hid hlW
  have HM := Lib.hid hm
  have HC := Lib.hid hc
  have HW : Hid (W = w.alloc (.cells #[.int .i64 0, .bool false, .slice none 0 0, .slice none 0 0, .slice none 0 0, .string ⟨#[]⟩, .int .i64 0, .int .i64 0] 48)) := Lib.hid hW
  obtain ⟨n, hnw⟩ : ∃ n, n = Tk.words l i := ⟨_, rfl⟩
  rw [← hnw] at HRD hwl HWA HWP
  have HNW := Lib.hid hnw
  clear hl hlW hm hc hW hnw
  go_enter Tryd.func87, Tryd.ntmps87
  go_upto_region 1 with fail
  rw [← HW.out]
  go_wp2_with fail
  go_loop [7] (fun ev => ∃ m : Nat, i ≤ m ∧ m ≤ i + n ∧ ev = .int .i64 (m : Int)) (fun ev => i + n - (intOf ev).toNat)
  case atStart => exact ⟨i, Nat.le_refl _, by omega, rfl⟩
  case round =>
    obtain ⟨m, hm1, hm2, rfl⟩ := hrel
    have hwat := HWA.out (m - i) (by omega)
    rw [show i + (m - i) = m by omega] at hwat
    have LT2 := LT.out m (by omega)
    have DG2 := DG.out m (by omega)
    unfold Tk.word at hwat
    generalize (Tk.cls (l.getD m (-1)) == 2) = b1 at *
    generalize Tk.digit (l.getD m (-1)) = b2 at *
    have HLT2 := Lib.hid LT2
    have HDG2 := Lib.hid DG2
    clear LT2 DG2
    by_cases hlt : m < i + n
    · have hb : (b2 || b1) = true := hwat.2 (by omega)
      clear hwat
      cases b1
      · have hb2 : b2 = true := by simpa using hb
        subst hb2
        clear hb
        go_wp2_with fail
        refine HLT2.out.mono ?_
        rintro e w' ⟨rfl, rfl⟩
        go_wp2_with fail
        refine HDG2.out.mono ?_
        rintro e w' ⟨rfl, rfl⟩
        go_wp2_with fail
        go_round
        case rel => exact ⟨m + 1, by omega, by omega, by go_num⟩
        case measure => simp [intOf]; omega
      · clear hb
        go_wp2_with fail
        refine HLT2.out.mono ?_
        rintro e w' ⟨rfl, rfl⟩
        go_wp2_with fail
        go_round
        case rel => exact ⟨m + 1, by omega, by omega, by go_num⟩
        case measure => simp [intOf]; omega
    · have hb : (b2 || b1) = false := by
        rw [Bool.eq_false_iff]; intro h; exact hlt (by have := hwat.1 h; omega)
      obtain ⟨hb2, hb1⟩ : b2 = false ∧ b1 = false := by cases b2 <;> cases b1 <;> simp at hb ⊢
      subst hb1 hb2
      obtain rfl : m = i + n := by omega
      clear hb hwat hlt hm1 hm2
      have hmi : ((i + n : Nat) : Int) - (i : Int) = (n : Int) := by omega
      go_wp2_with fail
      refine HLT2.out.mono ?_
      rintro e w' ⟨rfl, rfl⟩
      go_wp2_with fail
      refine HDG2.out.mono ?_
      rintro e w' ⟨rfl, rfl⟩
      clear HLT2 HDG2 LT DG
      by_cases h16 : 16 < n
      · have q16 : decide (16 < (n : Int)) = true := decide_eq_true (by omega)
        have HRE : Hid (Tk.read l i = (Tk.none_, 0, 1)) := Lib.hid (by rw [HRD.out, if_pos h16])
        go_wp2_with (with_reducible refine wpList_store_row rfl 48 (.tmp 4) (.tmp 24) rfl w.heap.size #[.int .i64 0, .bool false, .slice none 0 0, .slice none 0 0, .slice none 0 0, .string ⟨#[]⟩, .int .i64 0, .int .i64 0] rfl rfl 48 #[.int .i64 0, .bool false, .slice none 0 0, .slice none 0 0, .slice none 0 0, .string ⟨#[]⟩, .int .i64 0, .int .i64 0] HGA.out (tok_infoR _ _ _ _ _ _ _ _) rfl (tok_one _ _ _ _ _ _ _ _ _ _ _ _ _ _) ?_)
        refine bodyPost_ret (results_cell_row_tmp2 (by rfl) _ _ w.heap.size 48 #[.int .i64 0, .bool false, .slice none 0 0, .slice none 0 0, .slice none 0 0, .string ⟨#[]⟩, .int .i64 0, .int .i64 0] (0, 0) _ _ _ (by rfl) (by rfl) (by rfl) (rheap_same HGA.out) Tryd.underlying48 rfl (tok_infoR _ _ _ _ _ _ _ _)) rfl (HR.out _ _ ?_)
        rw [HRE.out]
        exact ⟨_, _, _, rfl, isRes_nil _, isRes_nil _, World.ownsRow_nil _ _ _ _, rBelow.setRow hb0 (Nat.le_refl _) _⟩
      · have q16 : decide (16 < (n : Int)) = false := decide_eq_false (by omega)
        obtain ⟨x, hx⟩ : ∃ x, x = l.getD i (-1) := ⟨_, rfl⟩
        have HRE : Hid (Tk.read l i = (⟨if x ≤ 90 then 3 else 2, Rt.none_, [], Tk.enc ((l.drop i).take n), 0, i⟩, n, 0)) := Lib.hid (by rw [HRD.out, if_neg h16, hx])
        obtain ⟨W2, hW2⟩ : ∃ W2, W2 = W.alloc (.cells #[.int .i64 2, .bool false, .slice none 0 0, .slice none 0 0, .slice none 0 0, .string ⟨#[]⟩, .int .i64 0, .int .i64 0] 48) := ⟨_, rfl⟩
        have hbW : Below W.heap.size W W2 := by rw [hW2]; exact (Below.refl _ _).alloc (Nat.le_refl _) _
        have HB2 : Hid (Blk W2 W.heap.size 48 [.int .i64 2, .bool false, .slice none 0 0, .slice none 0 0, .slice none 0 0, .string ⟨#[]⟩, .int .i64 0, .int .i64 0]) := Lib.hid (by rw [hW2]; exact Blk.new W _ _)
        have HW2 := Lib.hid hW2
        have hcr := cls2_range (show Tk.cls x = 2 by rw [hx]; exact HC.out)
        obtain ⟨b, off, rfl, hb, g0⟩ := lies_i64 (HL.out.below hbW) hi
        rw [← Tk.getD_in hi, ← hx] at g0
        have HXV := Lib.hid hx
        clear hx hW2
        go_upto_region 7 with fail
        rw [← HW2.out]
        have hx65 : 65 ≤ x := hcr.1
        have HL2 : Hid (Lies W W.heap.size (some ⟨b, off + i, none⟩) (I64 ((l.drop i).take n))) := Lib.hid (lies_cut HL.out i n (by omega) _ (fun b' off' e => by injection e with e; injection e with e1 e2; subst e1 e2; rfl))
        have EN := Lib.hid (fun (wx : World) (h : Below W.heap.size W wx) (c' : Nat) => encode_any (some ⟨b, off + i, none⟩) c' ((l.drop i).take n) wx ((HL2.out.below h).more h.size) (by simp; omega) (fun y hy => HM.out y (List.mem_of_mem_drop (List.mem_of_mem_take hy))))
        have hlen : ((l.drop i).take n).length = n := by simp; omega
        rw [hlen] at EN
        have HBW := Lib.hid hbW
        by_cases h90 : x ≤ 90
        · rw [if_pos h90] at HRE
          have hcell : W2.cell? ⟨W.heap.size, 0, none⟩ = some (.int .i64 2) := HB2.out.cell rfl
          have hfroz : W2.frozen? ⟨W.heap.size, 0, none⟩ = false := HB2.out.frozen 0
          have HB3 : Hid (Blk (W2.setCell ⟨W.heap.size, 0, none⟩ (.int .i64 3)) W.heap.size 48 [.int .i64 3, .bool false, .slice none 0 0, .slice none 0 0, .slice none 0 0, .string ⟨#[]⟩, .int .i64 0, .int .i64 0]) := Lib.hid (HB2.out.set_ 0 _)
          have HBW3 : Hid (Below W.heap.size W (W2.setCell ⟨W.heap.size, 0, none⟩ (.int .i64 3))) := Lib.hid (HBW.out.setCell (Nat.le_refl _) _)
          go_wp2_with fail
          refine (EN.out _ HBW3.out _).mono ?_
          rintro e w3 ⟨rfl, hb3⟩
          have HBW4 : Hid (Below W.heap.size W w3) := Lib.hid (HBW3.out.trans (hb3.mono (Nat.le_of_lt HB3.out.lt)))
          have HB4 : Hid (Blk w3 W.heap.size 48 [.int .i64 3, .bool false, .slice none 0 0, .slice none 0 0, .slice none 0 0, .string ⟨#[]⟩, .int .i64 0, .int .i64 0]) := Lib.hid (HB3.out.keep hb3 HB3.out.lt)
          have hcell5 : w3.cell? ⟨W.heap.size, 5, none⟩ = some (.string ⟨#[]⟩) := HB4.out.cell rfl
          have hfroz5 : w3.frozen? ⟨W.heap.size, 5, none⟩ = false := HB4.out.frozen 5
          have HB5 : Hid (Blk (w3.setCell ⟨W.heap.size, 5, none⟩ (.string ⟨(Tk.enc ((l.drop i).take n)).toArray⟩)) W.heap.size 48 [.int .i64 3, .bool false, .slice none 0 0, .slice none 0 0, .slice none 0 0, .string ⟨(Tk.enc ((l.drop i).take n)).toArray⟩, .int .i64 0, .int .i64 0]) := Lib.hid (HB4.out.set_ 5 _)
          have HBW5 : Hid (Below W.heap.size W (w3.setCell ⟨W.heap.size, 5, none⟩ (.string ⟨(Tk.enc ((l.drop i).take n)).toArray⟩))) := Lib.hid (HBW4.out.setCell (Nat.le_refl _) _)
          have HG5 : Hid ((w3.setCell ⟨W.heap.size, 5, none⟩ (.string ⟨(Tk.enc ((l.drop i).take n)).toArray⟩)).heap[w.heap.size]? = some (.cells #[.int .i64 0, .bool false, .slice none 0 0, .slice none 0 0, .slice none 0 0, .string ⟨#[]⟩, .int .i64 0, .int .i64 0] 48 (0, 0))) := Lib.hid ((HBW5.out.block w.heap.size (by rw [HWS.out]; omega)).trans HGA.out)
          have HG6 : Hid ((w3.setCell ⟨W.heap.size, 5, none⟩ (.string ⟨(Tk.enc ((l.drop i).take n)).toArray⟩)).heap[W.heap.size]? = some (.cells #[.int .i64 3, .bool false, .slice none 0 0, .slice none 0 0, .slice none 0 0, .string ⟨(Tk.enc ((l.drop i).take n)).toArray⟩, .int .i64 0, .int .i64 0] 48 (0, 0))) := HB5
          clear hb3 EN
          go_wp2_with (first | (with_reducible refine wpList_load_row rfl 48 (.tmp 8) rfl W.heap.size rfl 48 #[.int .i64 3, .bool false, .slice none 0 0, .slice none 0 0, .slice none 0 0, .string ⟨(Tk.enc ((l.drop i).take n)).toArray⟩, .int .i64 0, .int .i64 0] (0, 0) _ HG6.out Tryd.underlying48 rfl (tok_infoR _ _ _ _ _ _ _ _) ?_) | (with_reducible refine wpList_store_row rfl 48 (.tmp 4) (.tmp 48) rfl w.heap.size #[.int .i64 3, .bool false, .slice none 0 0, .slice none 0 0, .slice none 0 0, .string ⟨(Tk.enc ((l.drop i).take n)).toArray⟩, .int .i64 0, .int .i64 0] rfl rfl 48 #[.int .i64 0, .bool false, .slice none 0 0, .slice none 0 0, .slice none 0 0, .string ⟨#[]⟩, .int .i64 0, .int .i64 0] HG5.out (tok_infoR _ _ _ _ _ _ _ _) rfl (tok_one _ _ _ _ _ _ _ _ _ _ _ _ _ _) ?_))
          refine bodyPost_ret (results_cell_row_tmp2 (by rfl) _ _ w.heap.size 48 #[.int .i64 3, .bool false, .slice none 0 0, .slice none 0 0, .slice none 0 0, .string ⟨(Tk.enc ((l.drop i).take n)).toArray⟩, .int .i64 0, .int .i64 0] (0, 0) _ _ _ (by rfl) (by rfl) (by rfl) (rheap_same HG5.out) Tryd.underlying48 rfl (tok_infoR _ _ _ _ _ _ _ _)) rfl (HR.out _ _ ?_)
          rw [HRE.out]
          exact ⟨_, _, _, rfl, isRes_nil _, isRes_nil _, World.ownsRow_nil _ _ _ _, rBelow.setRow (hb0.trans (HBW5.out.mono (by rw [HWS.out]; omega))) (Nat.le_refl _) _⟩
        · have q90 : decide (x ≤ 90) = false := decide_eq_false h90
          rw [if_neg h90] at HRE
          have HB3 := HB2
          have HBW3 := HBW
          go_wp2_with fail
          refine (EN.out _ HBW3.out _).mono ?_
          rintro e w3 ⟨rfl, hb3⟩
          have HBW4 : Hid (Below W.heap.size W w3) := Lib.hid (HBW3.out.trans (hb3.mono (Nat.le_of_lt HB3.out.lt)))
          have HB4 : Hid (Blk w3 W.heap.size 48 [.int .i64 2, .bool false, .slice none 0 0, .slice none 0 0, .slice none 0 0, .string ⟨#[]⟩, .int .i64 0, .int .i64 0]) := Lib.hid (HB3.out.keep hb3 HB3.out.lt)
          have hcell5 : w3.cell? ⟨W.heap.size, 5, none⟩ = some (.string ⟨#[]⟩) := HB4.out.cell rfl
          have hfroz5 : w3.frozen? ⟨W.heap.size, 5, none⟩ = false := HB4.out.frozen 5
          have HB5 : Hid (Blk (w3.setCell ⟨W.heap.size, 5, none⟩ (.string ⟨(Tk.enc ((l.drop i).take n)).toArray⟩)) W.heap.size 48 [.int .i64 2, .bool false, .slice none 0 0, .slice none 0 0, .slice none 0 0, .string ⟨(Tk.enc ((l.drop i).take n)).toArray⟩, .int .i64 0, .int .i64 0]) := Lib.hid (HB4.out.set_ 5 _)
          have HBW5 : Hid (Below W.heap.size W (w3.setCell ⟨W.heap.size, 5, none⟩ (.string ⟨(Tk.enc ((l.drop i).take n)).toArray⟩))) := Lib.hid (HBW4.out.setCell (Nat.le_refl _) _)
          have HG5 : Hid ((w3.setCell ⟨W.heap.size, 5, none⟩ (.string ⟨(Tk.enc ((l.drop i).take n)).toArray⟩)).heap[w.heap.size]? = some (.cells #[.int .i64 0, .bool false, .slice none 0 0, .slice none 0 0, .slice none 0 0, .string ⟨#[]⟩, .int .i64 0, .int .i64 0] 48 (0, 0))) := Lib.hid ((HBW5.out.block w.heap.size (by rw [HWS.out]; omega)).trans HGA.out)
          have HG6 : Hid ((w3.setCell ⟨W.heap.size, 5, none⟩ (.string ⟨(Tk.enc ((l.drop i).take n)).toArray⟩)).heap[W.heap.size]? = some (.cells #[.int .i64 2, .bool false, .slice none 0 0, .slice none 0 0, .slice none 0 0, .string ⟨(Tk.enc ((l.drop i).take n)).toArray⟩, .int .i64 0, .int .i64 0] 48 (0, 0))) := HB5
          clear hb3 EN
          go_wp2_with (first | (with_reducible refine wpList_load_row rfl 48 (.tmp 8) rfl W.heap.size rfl 48 #[.int .i64 2, .bool false, .slice none 0 0, .slice none 0 0, .slice none 0 0, .string ⟨(Tk.enc ((l.drop i).take n)).toArray⟩, .int .i64 0, .int .i64 0] (0, 0) _ HG6.out Tryd.underlying48 rfl (tok_infoR _ _ _ _ _ _ _ _) ?_) | (with_reducible refine wpList_store_row rfl 48 (.tmp 4) (.tmp 48) rfl w.heap.size #[.int .i64 2, .bool false, .slice none 0 0, .slice none 0 0, .slice none 0 0, .string ⟨(Tk.enc ((l.drop i).take n)).toArray⟩, .int .i64 0, .int .i64 0] rfl rfl 48 #[.int .i64 0, .bool false, .slice none 0 0, .slice none 0 0, .slice none 0 0, .string ⟨#[]⟩, .int .i64 0, .int .i64 0] HG5.out (tok_infoR _ _ _ _ _ _ _ _) rfl (tok_one _ _ _ _ _ _ _ _ _ _ _ _ _ _) ?_))
          refine bodyPost_ret (results_cell_row_tmp2 (by rfl) _ _ w.heap.size 48 #[.int .i64 2, .bool false, .slice none 0 0, .slice none 0 0, .slice none 0 0, .string ⟨(Tk.enc ((l.drop i).take n)).toArray⟩, .int .i64 0, .int .i64 0] (0, 0) _ _ _ (by rfl) (by rfl) (by rfl) (rheap_same HG5.out) Tryd.underlying48 rfl (tok_infoR _ _ _ _ _ _ _ _)) rfl (HR.out _ _ ?_)
          rw [HRE.out]
          exact ⟨_, _, _, rfl, isRes_nil _, isRes_nil _, World.ownsRow_nil _ _ _ _, rBelow.setRow (hb0.trans (HBW5.out.mono (by rw [HWS.out]; omega))) (Nat.le_refl _) _⟩
end Go.Proofs.YtfiefglagknclaaDoor

/-
  digits.number and scrimref05.value: the number of digits that may begin with noughts.
-/
namespace Go.Proofs.YtfiefglagknclaaDoor
open Go.RowKit
set_option maxHeartbeats 1000000
set_option maxRecDepth 100000
set_option linter.unusedVariables false

/-- The call hands back a number's limbs. -/
def DigsOut (w : World) (n : Nat) (e : Ending) (w' : World) : Prop := ∃ v, e = .returned v ∧ IsRes w' v (Nt.digs n) ∧ Below w.heap.size w w'
theorem natTold_valid {s : List UInt8} {w w' : World} {e : Ending} (h : NatTold s w e w') (hv : Ten.Valid s) : ∃ v, e = .returned (.tuple #[v, .bool true]) ∧ IsRes w' v (Nt.digs (Ten.numOf s)) ∧ Below w.heap.size w w' := by
  obtain ⟨hb, v, ok, n, rfl, hr, hc⟩ := h
  rcases hc with ⟨rfl, _, rfl⟩ | ⟨_, h2, _⟩
  · exact ⟨v, rfl, hr, hb⟩
  · exact absurd hv h2

theorem number_any (s : List UInt8) (w : World) (hs : s.length ≤ 1000) (hd : ∀ b ∈ s, Ten.isDig b) :
    Calls Tryd.prog 33 #[.string ⟨s.toArray⟩] w (DigsOut w (Ten.numOf s)) := by
  have TL := Tryd.strings_TrimLeft_one ⟨s.toArray⟩ 48 (by decide) w
  rw [show (⟨s.toArray⟩ : ByteArray).data.toList = s from rfl, show Lib.trimLeftB s 48 = Dg.strip s from rfl] at TL
  have hl := Dg.strip_len s
  have HV := Lib.hid (fun h => Dg.strip_valid hd h)
  have HN := Lib.hid (Dg.numOf_strip s)
  have HZ := Lib.hid (fun h => Dg.strip_nil (s := s) h)
  generalize Dg.strip s = t at *
  have HTL := Lib.hid TL
  clear TL hd
  by_cases h0 : t = []
  · have hz := HZ.out h0
    have hemp : t.isEmpty = true := by rw [h0]; rfl
    have HZ2 := Lib.hid hz
    subst h0
    clear hz HV HN HZ
    go_enter Tryd.func33, Tryd.ntmps33
    go_wp2_with fail
    refine HTL.out.mono ?_
    rintro e w' ⟨rfl, rfl⟩
    go_wp2_with fail
    go_ret
    exact ⟨_, rfl, by rw [HZ2.out, Nt.digs_zero]; exact IsRes.none_ _, Below.refl _ _⟩
  · have hemp : t.isEmpty = false := by cases t with | nil => exact absurd rfl h0 | cons a r => rfl
    have h1 : ¬ t = [] := h0
    have PA := Lib.hid (fun (wx : World) => parse_any t wx (by omega))
    have HV2 := Lib.hid (HV.out h0)
    clear HZ HV
    go_enter Tryd.func33, Tryd.ntmps33
    go_wp2_with fail
    refine HTL.out.mono ?_
    rintro e w' ⟨rfl, rfl⟩
    go_wp2_with fail
    refine (PA.out _).mono ?_
    rintro e w2 hnt
    obtain ⟨v, rfl, hr, hb⟩ := natTold_valid hnt HV2.out
    have HR := Lib.hid hr
    clear hnt hr
    go_wp2_with fail
    go_ret
    exact ⟨_, rfl, by rw [← HN.out]; exact HR.out, hb⟩

theorem str_from (s : List UInt8) (n : Nat) : (⟨s.toArray⟩ : ByteArray).extract n s.length = ⟨(s.drop n).toArray⟩ := by
  apply ByteArray.ext
  simp
  exact List.take_of_length_le (by simp)
theorem str_upto (s : List UInt8) (n : Nat) (h : n ≤ s.length) : (⟨s.toArray⟩ : ByteArray).extract 0 n = ⟨(s.take n).toArray⟩ := by
  apply ByteArray.ext
  simp
/-- How many noughts ahead have been left out. -/
def SkipAt (s : List UInt8) (k : Nat) : Prop := ∀ i (hi : i < s.length), i < k → s[i] = 48
theorem SkipAt.step {s : List UInt8} {k : Nat} (h : SkipAt s k) (hk : k < s.length) (he : s[k] = 48) : SkipAt s (k + 1) := fun i hi hik => by
  by_cases e : i = k
  · subst e; exact he
  · exact h i hi (by omega)
theorem SkipAt.done {s : List UInt8} {k : Nat} (h : SkipAt s k) (hd : ∀ b ∈ s, Ten.isDig b) (hk : k < s.length) (hn : k + 1 < s.length → s[k] ≠ 48) : Ten.Valid (s.drop k) ∧ Ten.numOf (s.drop k) = Ten.numOf s := ⟨Dg.valid_drop hd hk hn, Dg.numOf_drop h (by omega)⟩

theorem value_any (s : List UInt8) (w : World) (hs : s.length ≤ 1000) (h0 : 0 < s.length) (hd : ∀ b ∈ s, Ten.isDig b) :
    Calls Tryd.prog 38 #[.string ⟨s.toArray⟩] w (DigsOut w (Ten.numOf s)) := by
  have hsz : (⟨s.toArray⟩ : ByteArray).size = s.length := rfl
  have HSZ := Lib.hid hsz
  have HD := Lib.hid hd
  clear hsz hd
  go_enter Tryd.func38, Tryd.ntmps38
  go_wp2
  go_loop [3] (fun i => ∃ k : Nat, k < s.length ∧ i = .int .i64 (k : Int) ∧ Hid (SkipAt s k)) (fun i => s.length - (intOf i).toNat)
  case atStart => exact ⟨0, h0, rfl, Lib.hid (fun i hi h => absurd h (by omega))⟩
  case round =>
    obtain ⟨k, hk, rfl, H⟩ := hrel
    have PA := Lib.hid (fun (wx : World) => refParse_any (s.drop k) wx (by rw [List.length_drop]; omega))
    have SF := Lib.hid (str_from s k)
    have hfin : (k + 1 < s.length → s[k] ≠ 48) → ∀ e w2, NatTold (s.drop k) w e w2 → ∃ v, e = .returned (.tuple #[v, .bool true]) ∧ IsRes w2 v (Nt.digs (Ten.numOf s)) ∧ Below w.heap.size w w2 := by
      intro hn e w2 hnt
      obtain ⟨hv, he⟩ := H.out.done HD.out hk hn
      rw [← he]
      exact natTold_valid hnt hv
    have HF := Lib.hid hfin
    clear hfin
    by_cases hlt : k + 1 < s.length
    · obtain ⟨y, hy⟩ : ∃ y, y = s[k].toNat := ⟨_, rfl⟩
      have hgy : ((⟨s.toArray⟩ : ByteArray)[k]'(show k < (⟨s.toArray⟩ : ByteArray).size from hk)).toNat = y := hy.symm
      have HY := Lib.hid hy
      have h48 : Hid (s[k] = 48 ↔ y = 48) := Lib.hid (by
        rw [hy]
        constructor
        · intro h; rw [h]; rfl
        · intro h; exact UInt8.toNat_inj.1 (by rw [h]; rfl))
      clear hy
      by_cases h1 : y = 48
      · subst h1
        have HS := Lib.hid (H.out.step hk (h48.out.2 rfl))
        clear PA SF HF
        go_wp2
        go_round
        case rel => exact ⟨k + 1, hlt, by go_num, HS⟩
        case measure => simp [intOf]; omega
      · have hq : ((y : Int) == 48) = false := beq_eq_false_iff_ne.2 (by omega)
        have HF2 := Lib.hid (HF.out (fun _ h => h1 (h48.out.1 h)))
        clear HF
        go_wp2_with fail
        rw [SF.out]
        refine (PA.out _).mono ?_
        rintro e w2 hnt
        obtain ⟨v, rfl, hr, hb⟩ := HF2.out e w2 hnt
        have HR := Lib.hid hr
        clear hnt hr PA SF HF2
        go_wp2_with fail
        go_ret
        exact ⟨_, rfl, HR.out, hb⟩
    · have HF2 := Lib.hid (HF.out (fun h => absurd h hlt))
      clear HF
      go_wp2_with fail
      rw [SF.out]
      refine (PA.out _).mono ?_
      rintro e w2 hnt
      obtain ⟨v, rfl, hr, hb⟩ := HF2.out e w2 hnt
      have HR := Lib.hid hr
      clear hnt hr PA SF HF2
      go_wp2_with fail
      go_ret
      exact ⟨_, rfl, HR.out, hb⟩
end Go.Proofs.YtfiefglagknclaaDoor

/-
  ratio.top, ratio.Int; scrimref04.IsWhole; digits.Print, scrimref05.Print.
-/
namespace Go.Proofs.YtfiefglagknclaaDoor
open Go.RowKit
set_option maxHeartbeats 2000000
set_option maxRecDepth 100000
set_option linter.unusedVariables false

theorem ratioTop_any (n : Bool) (v1 v2 : Value) (l1 l2 : List Nat) (w : World) (h1 : IsRes w v1 l1) (h2 : IsRes w v2 l2) :
    Calls Tryd.prog 61 #[.agg #[.bool n, v1, v2]] w (WholeOut w n l1) := by
  have HR := Lib.hid h1
  obtain ⟨A1, c1, rfl, -⟩ := h1
  obtain ⟨A2, c2, rfl, -⟩ := h2
  have HI2 : Hid (∀ (b : Bool) (A : Option Addr) (k c : Nat), (Tryd.prog.info? 58).map (·.size) = some (#[.bool b, .slice A k c] : Array Value).size) := Lib.hid (fun _ _ _ _ => whole2_info)
  have HG1 : Hid (∀ o1 o2, ((w.alloc o1).alloc o2).heap[w.heap.size + 1]? = some o2) := Lib.hid (fun o1 o2 => by
    have := heap_alloc_new (w.alloc o1) o2
    rwa [show (w.alloc o1).heap.size = w.heap.size + 1 by simp] at this)
  have HB : Hid (∀ o1 o2, Below w.heap.size w ((w.alloc o1).alloc o2)) := Lib.hid (fun o1 o2 => ((Below.refl _ _).alloc (Nat.le_refl _) _).alloc (by simp) _)
  generalize l2.length = k2 at *
  go_enter Tryd.func61, Tryd.ntmps61
  go_wp2_with (with_reducible refine wpList_store_row rfl 58 (.tmp 2) (.tmp 7) rfl (w.heap.size + 1) #[.bool n, .slice A1 l1.length c1] rfl rfl 58 #[.bool false, .slice none 0 0] (HG1.out _ _) (HI2.out _ _ _ _) rfl (two_one _ _ _ _) ?_)
  refine bodyPost_ret (results_cell_row (by rfl) _ _ (w.heap.size + 1) 58 #[.bool n, .slice A1 l1.length c1] (0, 0) _ (by rfl) (rheap_same (HG1.out _ _)) Tryd.underlying58 rfl (HI2.out _ _ _ _)) rfl ⟨.slice A1 l1.length c1, rfl, (HR.out.below (HB.out _ _)).setRow (HG1.out _ _) (two_no_int _ _ _ _) _, rBelow.setRow (HB.out _ _) (by omega) _⟩

/-- A number as a whole one, or none. -/
def IntOut (w : World) (n : Rt.Nm) (e : Ending) (w' : World) : Prop := ∃ u, e = .returned (.tuple #[.agg #[.bool (if n.bot = [1] then Rt.nrm n.neg (Nt.val n.top) else false), u], .bool (n.bot == [1])]) ∧ IsRes w' u (if n.bot = [1] then Nt.digs (Nt.val n.top) else []) ∧ Below w.heap.size w w'
theorem ratioInt_any (n : Bool) (v1 v2 : Value) (l1 l2 : List Nat) (w : World) (h1 : IsRes w v1 l1) (h2 : IsRes w v2 l2) (o1 : Nt.Ok l1) (s1 : l1.length ≤ 1000000) :
    Calls Tryd.prog 28 #[.agg #[.bool n, v1, v2]] w (IntOut w ⟨n, l1, l2⟩) := by
  have hb0 : ∀ o1 o2, Below w.heap.size w ((w.alloc o1).alloc o2) := fun o1 o2 => ((Below.refl _ _).alloc (Nat.le_refl _) _).alloc (by simp) _
  have I1 := Lib.hid (fun o1 o2 => isOne_any v2 l2 _ (h2.below (hb0 o1 o2)))
  have T1 := Lib.hid (fun o1 o2 => ratioTop_any n v1 v2 l1 l2 _ (h1.below (hb0 o1 o2)) (h2.below (hb0 o1 o2)))
  have NW := Lib.hid (fun (wx : World) (u : Value) (hu : IsRes wx u l1) => wholeNorm_any n u l1 wx hu o1 s1)
  have HI2 : Hid (∀ (b : Bool) (A : Option Addr) (k c : Nat), (Tryd.prog.info? 58).map (·.size) = some (#[.bool b, .slice A k c] : Array Value).size) := Lib.hid (fun _ _ _ _ => whole2_info)
  have HG1 : Hid (∀ o1 o2, ((w.alloc o1).alloc o2).heap[w.heap.size + 1]? = some o2) := Lib.hid (fun o1 o2 => by
    have := heap_alloc_new (w.alloc o1) o2
    rwa [show (w.alloc o1).heap.size = w.heap.size + 1 by simp] at this)
  have HB := Lib.hid hb0
  obtain ⟨A1, c1, rfl, -⟩ := h1
  obtain ⟨A2, c2, rfl, -⟩ := h2
  clear hb0 o1
  by_cases hone : l2 = [1]
  · have HE : Hid ((l2 == [1]) = true) := Lib.hid (by rw [hone]; rfl)
    have HO := Lib.hid hone
    have HP : Hid (∀ u w', IsRes w' u (Nt.digs (Nt.val l1)) → Below w.heap.size w w' → IntOut w ⟨n, l1, l2⟩ (.returned (.tuple #[.agg #[.bool (Rt.nrm n (Nt.val l1)), u], .bool true])) w') := Lib.hid (fun u w' hu hb => ⟨u, by simp only [HO.out, if_true]; rfl, by simp only [HO.out, if_true]; exact hu, hb⟩)
    have I1' := Lib.hid (fun o1 o2 => by have := I1.out o1 o2; rw [HE.out] at this; exact this)
    clear hone I1
    generalize l2.length = k2 at *
    go_enter Tryd.func28, Tryd.ntmps28
    go_wp2_with fail
    refine (I1'.out _ _).mono ?_
    rintro e w' ⟨rfl, rfl⟩
    go_wp2_with fail
    refine (T1.out _ _).mono ?_
    rintro e w2 ⟨v3, rfl, hr2, hb2⟩
    have NW2 := Lib.hid (NW.out w2 v3 hr2)
    have HG2 := Lib.hid ((hb2.block (w.heap.size + 1) (by simp)).trans (HG1.out _ _))
    have hbw2 := (HB.out _ _).trans (hb2.mono (HB.out _ _).size)
    clear hr2 hb2 T1 I1' NW
    go_wp2_with fail
    refine NW2.out.mono ?_
    rintro e w3 ⟨v4, rfl, hr3, hb3⟩
    have hl3 := blk_lt HG2.out
    have HG3 := Lib.hid ((hb3.block (w.heap.size + 1) hl3).trans HG2.out)
    have hbw3 := hbw2.trans (hb3.mono hbw2.size)
    have HR3 := Lib.hid (hr3.setRow HG3.out (two_no_int _ _ _ _) #[.bool (Rt.nrm n (Nt.val l1)), v4])
    obtain ⟨A3, c3, rfl, -⟩ := hr3
    clear hb3 NW2 hbw2
    go_wp2_with (with_reducible refine wpList_store_row rfl 58 (.tmp 2) (.tmp 11) rfl (w.heap.size + 1) #[.bool (Rt.nrm n (Nt.val l1)), .slice A3 (Nt.digs (Nt.val l1)).length c3] rfl rfl 58 #[.bool false, .slice none 0 0] HG3.out (HI2.out _ _ _ _) rfl (two_one _ _ _ _) ?_)
    refine bodyPost_ret (results_cell_row_tmp (by rfl) _ _ (w.heap.size + 1) 58 #[.bool (Rt.nrm n (Nt.val l1)), .slice A3 (Nt.digs (Nt.val l1)).length c3] (0, 0) _ _ (by rfl) (by rfl) (rheap_same HG3.out) Tryd.underlying58 rfl (HI2.out _ _ _ _)) rfl (HP.out _ _ HR3.out (rBelow.setRow hbw3 (by omega) _))
  · have HE : Hid ((l2 == [1]) = false) := Lib.hid (beq_eq_false_iff_ne.2 hone)
    have HO := Lib.hid hone
    have HP : Hid (∀ w', Below w.heap.size w w' → IntOut w ⟨n, l1, l2⟩ (.returned (.tuple #[.agg #[.bool false, .slice none 0 0], .bool false])) w') := Lib.hid (fun w' hb => ⟨.slice none 0 0, by simp only [HO.out, if_false, HE.out], by simp only [HO.out, if_false]; exact IsRes.none_ _, hb⟩)
    have I1' := Lib.hid (fun o1 o2 => by have := I1.out o1 o2; rw [HE.out] at this; exact this)
    clear hone I1
    generalize l2.length = k2 at *
    go_enter Tryd.func28, Tryd.ntmps28
    go_wp2_with fail
    refine (I1'.out _ _).mono ?_
    rintro e w' ⟨rfl, rfl⟩
    clear T1 NW
    go_wp2_with (with_reducible refine wpList_store_row rfl 58 (.tmp 2) (.tmp 8) rfl (w.heap.size + 1) #[.bool false, .slice none 0 0] rfl rfl 58 #[.bool false, .slice none 0 0] (HG1.out _ _) (HI2.out _ _ _ _) rfl (two_one _ _ _ _) ?_)
    refine bodyPost_ret (results_cell_row_tmp (by rfl) _ _ (w.heap.size + 1) 58 #[.bool false, .slice none 0 0] (0, 0) _ _ (by rfl) (by rfl) (rheap_same (HG1.out _ _)) Tryd.underlying58 rfl (HI2.out _ _ _ _)) rfl (HP.out _ (rBelow.setRow (HB.out _ _) (by omega) _))
end Go.Proofs.YtfiefglagknclaaDoor

/-
  digits.Print, scrimref05.Print: a number's text; scrimref04.IsWhole.
-/
namespace Go.Proofs.YtfiefglagknclaaDoor
open Go.RowKit
set_option maxHeartbeats 2000000
set_option maxRecDepth 100000
set_option linter.unusedVariables false

theorem isWhole_any (n : Bool) (v1 v2 : Value) (l1 l2 : List Nat) (w : World) (h1 : IsRes w v1 l1) (h2 : IsRes w v2 l2) :
    Calls Tryd.prog 35 #[.agg #[.bool n, v1, v2]] w fun e w' => e = .returned (.bool (l2 == [1])) ∧ Below w.heap.size w w' := by
  have HB : Hid (∀ o1, Below w.heap.size w (w.alloc o1)) := Lib.hid (fun o1 => (Below.refl _ _).alloc (Nat.le_refl _) _)
  obtain ⟨A1, c1, rfl, -⟩ := h1
  obtain ⟨A2, c2, rfl, k1, k2, k3, k4⟩ := h2
  by_cases hl : l2.length = 1
  · obtain ⟨x, rfl⟩ : ∃ x, l2 = [x] := by
      match l2, hl with
      | [x], _ => exact ⟨x, rfl⟩
    obtain ⟨b, off, rfl, hb, g0⟩ := k4.at_ (k := 0) (by simp [U])
    have g1 : w.cell? ⟨b, off, none⟩ = some (.int .u32 (x : Int)) := by simpa [U] using g0
    have HQ : Hid (([x] == [1]) = (x == 1)) := Lib.hid (by simp [List.cons_beq_cons])
    clear g0 k4 k3 hl
    by_cases hx : x = 1
    · subst hx
      go_enter Tryd.func35, Tryd.ntmps35
      go_wp2_with fail
      go_ret
      exact ⟨ret_bool (by rw [HQ.out]; rfl), HB.out _⟩
    · have q : ((x : Int) == 1) = false := beq_eq_false_iff_ne.2 (by omega)
      have HQ2 : Hid ((x == 1) = false) := Lib.hid (beq_eq_false_iff_ne.2 hx)
      clear hx
      go_enter Tryd.func35, Tryd.ntmps35
      go_wp2_with fail
      go_ret
      exact ⟨ret_bool (by rw [HQ.out, HQ2.out]), HB.out _⟩
  · have q : ((l2.length : Int) == 1) = false := beq_eq_false_iff_ne.2 (by omega)
    have HQ : Hid ((l2 == [1]) = false) := Lib.hid (by
      rw [beq_eq_false_iff_ne]; rintro rfl; exact hl rfl)
    clear hl k4 k3
    generalize l2.length = m at *
    go_enter Tryd.func35, Tryd.ntmps35
    go_wp2_with fail
    go_ret
    exact ⟨ret_bool (by rw [HQ.out]), HB.out _⟩

/-- The table of strconv's, in whatever world behind. -/
structure Pow10 (w : World) : Prop where
  tab : Lib.TabIs Tryd.prog w "internal/strconv.uint64pow10" .u64 Lib.pow10Tab
  lt : ∀ g, Tryd.prog.globalNamed "internal/strconv.uint64pow10" = some g → g < w.heap.size
theorem Pow10.below {w w' : World} (h : Pow10 w) (hb : Below w.heap.size w w') : Pow10 w' := ⟨tabIs_below h.tab hb h.lt, fun g e => Nat.lt_of_lt_of_le (h.lt g e) hb.size⟩
/-- A text is handed back. -/
def StrOut (w : World) (s : List UInt8) (e : Ending) (w' : World) : Prop := e = .returned (.string ⟨s.toArray⟩) ∧ Below w.heap.size w w'
theorem textR_any {w : World} {v : Value} {l : List Nat} (h : IsRes w v l) (ho : Nt.Ok l) (hs : l.length ≤ 1000) (hp : Pow10 w) :
    Calls Tryd.prog 27 #[v] w (StrOut w (Lib.decDigits (Nt.val l))) := by
  obtain ⟨A, c, rfl, k1, k2, k3, k4⟩ := h
  exact text_any A c w.heap.size l w k4 (Nat.le_refl _) ho k1 k2 hs hp.tab hp.lt
theorem refTextR_any {w : World} {v : Value} {l : List Nat} (h : IsRes w v l) (ho : Nt.Ok l) (hs : l.length ≤ 1000) :
    Calls Tryd.prog 34 #[v] w (StrOut w (Lib.decDigits (Nt.val l))) := by
  obtain ⟨A, c, rfl, k1, k2, k3, k4⟩ := h
  exact refText_any A c w.heap.size l w k4 (Nat.le_refl _) ho k1 k2 k3 hs
theorem ret_str {a b : ByteArray} (h : a.data.toList = b.data.toList) : Ending.returned (.string a) = .returned (.string b) := by
  have : a = b := ByteArray.ext (Array.toList_inj.1 h)
  rw [this]

/-- A number that may be, in memory. -/
structure NumR (w : World) (n : Rt.Nm) (v1 v2 : Value) : Prop where
  r1 : IsRes w v1 n.top
  r2 : IsRes w v2 n.bot
  o1 : Nt.Ok n.top
  o2 : Nt.Ok n.bot
  s1 : n.top.length ≤ 1000
  s2 : n.bot.length ≤ 1000
theorem NumR.below {w w' : World} {n : Rt.Nm} {v1 v2 : Value} (h : NumR w n v1 v2) (hb : Below w.heap.size w w') : NumR w' n v1 v2 := ⟨h.r1.below hb, h.r2.below hb, h.o1, h.o2, h.s1, h.s2⟩

theorem refPrint_any (n : Rt.Nm) (v1 v2 : Value) (w : World) (h : NumR w n v1 v2) :
    Calls Tryd.prog 12 #[.agg #[.bool n.neg, v1, v2]] w (StrOut w (Dg.print n)) := by
  have TX := Lib.hid (fun (wx : World) (hb : Below w.heap.size w wx) => refTextR_any (h.below hb).r1 h.o1 h.s1)
  have TY := Lib.hid (fun (wx : World) (hb : Below w.heap.size w wx) => refTextR_any (h.below hb).r2 h.o2 h.s2)
  have IW := Lib.hid (fun (wx : World) (hb : Below w.heap.size w wx) => isWhole_any n.neg v1 v2 n.top n.bot wx (h.below hb).r1 (h.below hb).r2)
  have HB : Hid (∀ o1, Below w.heap.size w (w.alloc o1)) := Lib.hid (fun o1 => (Below.refl _ _).alloc (Nat.le_refl _) _)
  have HP : Hid (Dg.print n = (if n.neg then [194, 175] else []) ++ (Lib.decDigits (Nt.val n.top) ++ if n.bot = [1] then [] else 114 :: Lib.decDigits (Nt.val n.bot))) := Lib.hid rfl
  have HI3 : Hid ((Tryd.prog.info? 24).map (·.size) = some (#[.bool n.neg, v1, v2] : Array Value).size) := Lib.hid num_info
  have hTl := dec_bound h.o1 h.s1
  have hBl := dec_bound h.o2 h.s2
  clear h
  obtain ⟨neg, top, bot⟩ := n
  dsimp only at TX TY IW HP HI3 hTl hBl ⊢
  generalize Dg.print ⟨neg, top, bot⟩ = R at *
  generalize Lib.decDigits (Nt.val top) = T at *
  generalize Lib.decDigits (Nt.val bot) = B at *
  go_enter Tryd.func12, Tryd.ntmps12
  go_wp2_with fail
  refine (TX.out _ (HB.out _)).mono ?_
  rintro e w2 ⟨rfl, hb2⟩
  have hbw2 := (HB.out (.cells #[.bool neg, v1, v2] 24)).trans (hb2.mono (HB.out _).size)
  have HG := Lib.hid ((hb2.block w.heap.size (by simp)).trans (heap_alloc_new w (.cells #[.bool neg, v1, v2] 24)))
  have hs2 := hb2.size
  have hlt : w.heap.size < w2.heap.size := by simp at hs2; omega
  clear hb2 hs2
  go_wp2_with (with_reducible refine wpList_load_row rfl 24 (.tmp 1) rfl w.heap.size rfl 24 #[.bool neg, v1, v2] (0, 0) _ HG.out Tryd.underlying24 rfl HI3.out ?_)
  refine (IW.out w2 hbw2).mono ?_
  rintro e w3 ⟨rfl, hb3⟩
  have hbw3 := hbw2.trans (hb3.mono hbw2.size)
  have HG3 := Lib.hid ((hb3.block w.heap.size hlt).trans HG.out)
  have hlt3 : w.heap.size < w3.heap.size := Nat.lt_of_lt_of_le hlt hb3.size
  clear hb3 hbw2 hlt
  have p0 : w3.cell? ⟨w.heap.size, 0, none⟩ = some (.bool neg) := (cell_of_row w3 w.heap.size 0 _ _ _ HG3.out).trans rfl
  have p2 : w3.cell? ⟨w.heap.size, 2, none⟩ = some v2 := (cell_of_row w3 w.heap.size 2 _ _ _ HG3.out).trans rfl
  by_cases hone : bot = [1]
  · have HO := Lib.hid hone
    have e1 : (bot == [1]) = true := by rw [hone]; rfl
    clear hone TX TY IW
    cases neg
    · go_wp2_with fail
      go_ret
      exact ⟨ret_str (by rw [HP.out, if_pos HO.out]; simp), hbw3⟩
    · go_wp2_with fail
      go_ret
      exact ⟨ret_str (by rw [HP.out, if_pos HO.out]; simp), hbw3⟩
  · have HO := Lib.hid hone
    have e1 : (bot == [1]) = false := beq_eq_false_iff_ne.2 hone
    clear hone TX IW
    have HTY := Lib.hid (TY.out w3 hbw3)
    clear TY
    go_wp2_with fail
    refine HTY.out.mono ?_
    rintro e w4 ⟨rfl, hb4⟩
    have hbw4 := hbw3.trans (hb4.mono hbw3.size)
    have p04 : w4.cell? ⟨w.heap.size, 0, none⟩ = some (.bool neg) := (hb4.cell (p := ⟨w.heap.size, 0, none⟩) hlt3).trans p0
    clear hb4 p0 p2 HTY hbw3
    cases neg
    · go_wp2_with fail
      go_ret
      exact ⟨ret_str (by rw [HP.out, if_neg HO.out]; simp), hbw4⟩
    · go_wp2_with fail
      go_ret
      exact ⟨ret_str (by rw [HP.out, if_neg HO.out]; simp), hbw4⟩

theorem digPrint_any (n : Rt.Nm) (v1 v2 : Value) (w : World) (h : NumR w n v1 v2) (hp : Pow10 w) :
    Calls Tryd.prog 10 #[.agg #[.bool n.neg, v1, v2]] w (StrOut w (Dg.print n)) := by
  have TX := Lib.hid (fun (wx : World) (hb : Below w.heap.size w wx) => textR_any (h.below hb).r1 h.o1 h.s1 (hp.below hb))
  have TY := Lib.hid (fun (wx : World) (hb : Below w.heap.size w wx) => textR_any (h.below hb).r2 h.o2 h.s2 (hp.below hb))
  have IW := Lib.hid (fun (wx : World) (hb : Below w.heap.size w wx) => ratioInt_any n.neg v1 v2 n.top n.bot wx (h.below hb).r1 (h.below hb).r2 h.o1 (by have := h.s1; omega))
  have HB : Hid (∀ o1, Below w.heap.size w (w.alloc o1)) := Lib.hid (fun o1 => (Below.refl _ _).alloc (Nat.le_refl _) _)
  have HP : Hid (Dg.print n = (if n.neg then [194, 175] else []) ++ (Lib.decDigits (Nt.val n.top) ++ if n.bot = [1] then [] else 114 :: Lib.decDigits (Nt.val n.bot))) := Lib.hid rfl
  have HI3 : Hid ((Tryd.prog.info? 24).map (·.size) = some (#[.bool n.neg, v1, v2] : Array Value).size) := Lib.hid num_info
  have HI2 : Hid (∀ (b : Bool) (A : Option Addr) (k c : Nat), (Tryd.prog.info? 58).map (·.size) = some (#[.bool b, .slice A k c] : Array Value).size) := Lib.hid (fun _ _ _ _ => whole2_info)
  have hTl := dec_bound h.o1 h.s1
  have hBl := dec_bound h.o2 h.s2
  clear h hp
  obtain ⟨neg, top, bot⟩ := n
  dsimp only at TX TY IW HP HI3 hTl hBl ⊢
  generalize Dg.print ⟨neg, top, bot⟩ = R at *
  generalize Lib.decDigits (Nt.val top) = T at *
  generalize Lib.decDigits (Nt.val bot) = B at *
  go_enter Tryd.func10, Tryd.ntmps10
  go_wp2_with fail
  refine (TX.out _ (HB.out _)).mono ?_
  rintro e w2 ⟨rfl, hb2⟩
  have hbw2 := (HB.out (.cells #[.bool neg, v1, v2] 24)).trans (hb2.mono (HB.out _).size)
  have HG := Lib.hid ((hb2.block w.heap.size (by simp)).trans (heap_alloc_new w (.cells #[.bool neg, v1, v2] 24)))
  have hs2 := hb2.size
  have hlt : w.heap.size < w2.heap.size := by simp at hs2; omega
  have p0 : w2.cell? ⟨w.heap.size, 0, none⟩ = some (.bool neg) := (cell_of_row w2 w.heap.size 0 _ _ _ HG.out).trans rfl
  clear hb2 hs2 TX
  obtain ⟨N, hN⟩ : ∃ N : List UInt8, N = if neg then [194, 175] else [] := ⟨_, rfl⟩
  rw [← hN] at HP
  have hN2 := Lib.hid hN
  clear hN
  cases neg
  all_goals
    go_wp2_with (with_reducible refine wpList_load_row rfl 24 (.tmp 1) rfl w.heap.size rfl 24 #[.bool _, v1, v2] (0, 0) _ HG.out Tryd.underlying24 rfl HI3.out ?_)
    refine (IW.out w2 hbw2).mono ?_
    rintro e w3 ⟨u, rfl, hu, hb3⟩
    dsimp only at hu
    have hbw3 := hbw2.trans (hb3.mono hbw2.size)
    have HG3 := Lib.hid ((hb3.block w.heap.size hlt).trans HG.out)
    have hlt3 : w.heap.size < w3.heap.size := Nat.lt_of_lt_of_le hlt hb3.size
    obtain ⟨A3, c3, rfl, -⟩ := hu
    clear hb3 hbw2 hlt p0
    have p2 : w3.cell? ⟨w.heap.size, 2, none⟩ = some v2 := (cell_of_row w3 w.heap.size 2 _ _ _ HG3.out).trans rfl
    have HG4 : Hid (∀ o, (w3.alloc o).heap[w3.heap.size]? = some o) := Lib.hid (fun o => heap_alloc_new w3 o)
    by_cases hone : bot = [1]
    · have HO := Lib.hid hone
      have e1 : (bot == [1]) = true := by rw [hone]; rfl
      simp only [e1, if_pos hone]
      clear hone TY IW e1
      go_wp2_with fail
      go_ret
      exact ⟨ret_str (by rw [HP.out, if_pos HO.out, hN2.out]; simp), hbw3.alloc hbw3.size _⟩
    · have HO := Lib.hid hone
      have e1 : (bot == [1]) = false := beq_eq_false_iff_ne.2 hone
      simp only [e1, if_neg hone]
      clear hone IW e1
      have HTY := Lib.hid (fun o => TY.out (w3.alloc o) (hbw3.alloc hbw3.size _))
      clear TY
      go_wp2_with fail
      refine (HTY.out _).mono ?_
      rintro e w4 ⟨rfl, hb4⟩
      have hbw4 := (hbw3.alloc hbw3.size (.cells #[.bool false, .slice A3 ([] : List Nat).length c3] 58)).trans (hb4.mono (by simp; omega))
      clear hb4 HTY hbw3 p2
      go_wp2_with fail
      go_ret
      exact ⟨ret_str (by rw [HP.out, if_neg HO.out, hN2.out]; simp), hbw4⟩
end Go.Proofs.YtfiefglagknclaaDoor

/-
  digits.Parse: the number of a text. (Printed by wip/bin/gen_dig8.py.)
-/
namespace Go.Proofs.YtfiefglagknclaaDoor
open Go.RowKit
set_option maxHeartbeats 4000000
set_option maxRecDepth 100000
set_option linter.unusedVariables false

theorem bDrewN {B : Nat} {w w' : World} (h : Below B w w') (n : Nat) : Below B w (w'.drewN n) := ⟨h.os, h.tape, h.output, h.size, h.block⟩
theorem parse_cut (s : List UInt8) : Dg.parse s = Dg.body (Lib.hasPrefix s [194, 175]) (Lib.trimPrefix s [194, 175]) := by
  unfold Lib.trimPrefix Lib.hasPrefix
  match s with
  | [] => rfl
  | [a] =>
    have h : List.isPrefixOf [194, 175] [a] = false := by simp [List.isPrefixOf]
    rw [h]
    unfold Dg.parse
    split
    · next h2 => cases h2
    · rfl
  | a :: b :: t =>
    by_cases h : a = 194 ∧ b = 175
    · obtain ⟨rfl, rfl⟩ := h
      rfl
    · have h2 : List.isPrefixOf [194, 175] (a :: b :: t) = false := by
        simp [List.isPrefixOf]
        intro e1 e2
        exact h ⟨e1.symm, e2.symm⟩
      rw [h2]
      unfold Dg.parse
      split
      · next h3 => injection h3 with e1 h3; injection h3 with e2 h3; exact absurd ⟨e1, e2⟩ h
      · rfl
theorem numOf_one : Ten.numOf [49] = 1 := rfl
theorem cut_len (s p : List UInt8) : (Lib.trimPrefix s p).length ≤ s.length := by
  unfold Lib.trimPrefix
  split
  · rw [List.length_drop]; omega
  · exact Nat.le_refl _
theorem lim_digs {t : List UInt8} (hd : ∀ b ∈ t, Ten.isDig b) (h : t.length ≤ 1000) : (Nt.digs (Ten.numOf t)).length ≤ 1000000 := by
  have := Dg.limbs_le hd 112 (by omega)
  omega
/-- The last statement's calls. -/
theorem makeOf_any (neg : Bool) (v1 v2 : Value) (a b : List UInt8) (w : World) (h1 : IsRes w v1 (Nt.digs (Ten.numOf a))) (h2 : IsRes w v2 (Nt.digs (Ten.numOf b))) (d1 : ∀ x ∈ a, Ten.isDig x) (d2 : ∀ x ∈ b, Ten.isDig x) (s1 : a.length ≤ 1000) (s2 : b.length ≤ 1000) :
    Calls Tryd.prog 32 #[.agg #[.bool neg, v1], .agg #[.bool false, v2]] w (MakeOut w (Rt.mk neg false (Ten.numOf a) (Ten.numOf b))) := by
  have := ratioMake_any neg false v1 v2 _ _ w h1 h2 (Nt.ok_digs _) (Nt.ok_digs _) (lim_digs d1 s1) (lim_digs d2 s2)
  rwa [Nt.val_digs, Nt.val_digs] at this

theorem digParse_any (s : List UInt8) (w : World) (hs : s.length ≤ 100000) :
    Calls Tryd.prog 11 #[.string ⟨s.toArray⟩] w (MakeOut w (Dg.parse s)) := by
  have CP := fun wx => Tryd.strings_CutPrefix ⟨s.toArray⟩ ⟨#[194, 175]⟩ wx
  rw [show (⟨s.toArray⟩ : ByteArray).data.toList = s from rfl, show (⟨#[194, 175]⟩ : ByteArray).data.toList = [194, 175] from rfl] at CP
  have hcl := cut_len s [194, 175]
  rw [parse_cut]
  have HI3 : Hid (∀ (b : Bool) (A : Option Addr) (k c : Nat) (A' : Option Addr) (k' c' : Nat), (Tryd.prog.info? 24).map (·.size) = some (#[.bool b, .slice A k c, .slice A' k' c'] : Array Value).size) := Lib.hid (fun _ _ _ _ _ _ _ => num_info)
  have HGA : Hid ((w.alloc (.cells #[.bool false, .slice none 0 0, .slice none 0 0] 24)).heap[w.heap.size]? = some (.cells #[.bool false, .slice none 0 0, .slice none 0 0] 24 (0, 0))) := Lib.hid (heap_alloc_new w _)
  have hb0 : Below w.heap.size w (w.alloc (.cells #[.bool false, .slice none 0 0, .slice none 0 0] 24)) := (Below.refl _ _).alloc (Nat.le_refl _) _
  generalize Lib.trimPrefix s [194, 175] = t at *
  generalize Lib.hasPrefix s [194, 175] = neg at *
  have HCP := Lib.hid CP
  have htl : t.length ≤ 100000 := by omega
  clear CP hcl
  obtain ⟨W, hW⟩ : ∃ W, W = w.alloc (.cells #[.bool false, .slice none 0 0, .slice none 0 0] 24) := ⟨_, rfl⟩
  rw [← hW] at HGA hb0
  have HW := Lib.hid hW
  clear hW
  have hsz : (⟨t.toArray⟩ : ByteArray).size = t.length := rfl
  have HSZ := Lib.hid hsz
  clear hsz
  go_enter Tryd.func11, Tryd.ntmps11
  go_wp2_with fail
  rw [← HW.out]
  refine (HCP.out _).mono ?_
  rintro e w' ⟨rfl, rfl⟩
  clear HCP
  by_cases h400 : 400 < t.length
  · have HE : Hid (400 < t.length) := Lib.hid h400
    go_wp2_with (with_reducible refine wpList_store_row rfl 24 (.tmp 2) (.tmp 18) rfl w.heap.size #[.bool false, .slice none 0 0, .slice none 0 0] rfl rfl 24 #[.bool false, .slice none 0 0, .slice none 0 0] HGA.out (HI3.out _ _ _ _ _ _ _) rfl (three_one _ _ _ _ _ _ _) ?_)
    refine bodyPost_ret (results_cell_row_tmp (by rfl) _ _ w.heap.size 24 #[.bool false, .slice none 0 0, .slice none 0 0] (0, 0) _ _ (by rfl) (by rfl) (rheap_same HGA.out) Tryd.underlying24 rfl (HI3.out _ _ _ _ _ _ _)) rfl (MakeOut.of (by unfold Dg.body; rw [if_pos HE.out]; rfl) rfl (isRes_nil _) (isRes_nil _) (rBelow.setRow hb0 (by omega) _))
  · have H400 : Hid (¬ 400 < t.length) := Lib.hid h400
    obtain ⟨n, hn⟩ : ∃ n, n = Dg.lead t := ⟨_, rfl⟩
    have LD := fun (wx : World) => leading_any t wx (by omega)
    have hll := Dg.lead_le t
    rw [← hn] at LD hll
    have LD := Lib.hid LD
    have HN := Lib.hid hn
    clear hn
    go_wp2_with fail
    refine (LD.out _).mono ?_
    rintro e w' ⟨rfl, rfl⟩
    clear LD
    by_cases hl0 : n = 0
    · have hz : ((n : Int) == 0) = true := by rw [hl0]; rfl
      have HE : Hid (Dg.lead t = 0) := Lib.hid (by rw [← HN.out]; exact hl0)
      clear hl0
      go_wp2_with (with_reducible refine wpList_store_row rfl 24 (.tmp 2) (.tmp 23) rfl w.heap.size #[.bool false, .slice none 0 0, .slice none 0 0] rfl rfl 24 #[.bool false, .slice none 0 0, .slice none 0 0] HGA.out (HI3.out _ _ _ _ _ _ _) rfl (three_one _ _ _ _ _ _ _) ?_)
      refine bodyPost_ret (results_cell_row_tmp (by rfl) _ _ w.heap.size 24 #[.bool false, .slice none 0 0, .slice none 0 0] (0, 0) _ _ (by rfl) (by rfl) (rheap_same HGA.out) Tryd.underlying24 rfl (HI3.out _ _ _ _ _ _ _)) rfl (MakeOut.of (by unfold Dg.body; rw [if_neg H400.out, if_pos HE.out]; rfl) rfl (isRes_nil _) (isRes_nil _) (rBelow.setRow hb0 (by omega) _))
    · have hz : ((n : Int) == 0) = false := beq_eq_false_iff_ne.2 (by omega)
      have HL0 : Hid (¬ Dg.lead t = 0) := Lib.hid (by rw [← HN.out]; exact hl0)
      by_cases hlt : n < t.length
      · obtain ⟨y, hy⟩ : ∃ y, y = t[n].toNat := ⟨_, rfl⟩
        have hgy : ((⟨t.toArray⟩ : ByteArray)[n]'(show n < (⟨t.toArray⟩ : ByteArray).size from hlt)).toNat = y := hy.symm
        have HY : Hid (y = (t.getD n 0).toNat) := Lib.hid (by rw [hy, List.getD_eq_getElem?_getD, List.getElem?_eq_getElem hlt]; rfl)
        clear hy
        obtain ⟨ov, hov⟩ : ∃ ov, ov = t.take n := ⟨_, rfl⟩
        obtain ⟨bh, hbh⟩ : ∃ bh, bh = t.drop (n + 1) := ⟨_, rfl⟩
        have hovl : ov.length = n := by rw [hov, List.length_take]; omega
        have hbhl : bh.length = t.length - (n + 1) := by rw [hbh, List.length_drop]
        have hovl2 : ov.length ≤ 400 := by omega
        have hbhl2 : bh.length ≤ 400 := by omega
        have SU : Hid ((⟨t.toArray⟩ : ByteArray).extract 0 n = ⟨ov.toArray⟩) := Lib.hid (by rw [str_upto t n (by omega), hov])
        have SF : Hid ((⟨t.toArray⟩ : ByteArray).extract (n + 1) t.length = ⟨bh.toArray⟩) := Lib.hid (by rw [str_from, hbh])
        have HOV : Hid (ov = t.take (Dg.lead t)) := Lib.hid (by rw [← HN.out]; exact hov)
        have HBH : Hid (bh = t.drop (Dg.lead t + 1)) := Lib.hid (by rw [← HN.out]; exact hbh)
        have HBL : Hid (bh.length = t.length - (Dg.lead t + 1)) := Lib.hid (by rw [← HN.out]; exact hbhl)
        have HNE : Hid (¬ Dg.lead t = t.length) := Lib.hid (by rw [← HN.out]; omega)
        have HO : Hid (ov.length ≤ 1000 ∧ ∀ b ∈ ov, Ten.isDig b) := Lib.hid ⟨by omega, by rw [HOV.out]; exact Dg.lead_take⟩
        have HEQ0 : Hid (Dg.body neg t = if bh.length = 0 ∨ Dg.lead bh < bh.length then (Rt.none_, 1) else if t.getD n 0 = 114 then Rt.mk neg false (Ten.numOf ov) (Ten.numOf bh) else if t.getD n 0 = 46 then Rt.mk neg false (Ten.numOf (ov ++ bh)) (10 ^ bh.length) else (Rt.none_, 1)) := Lib.hid (by
          unfold Dg.body
          rw [if_neg H400.out, if_neg HL0.out, if_neg HNE.out, ← HBL.out, ← HBH.out, ← HOV.out, ← HN.out]
          have e : (t.length = n + 1) = (bh.length = 0) := by rw [eq_iff_iff]; omega
          simp only [e])
        have hw1 : IntKind.i64.wrap ((n : Int) + 1) = (n : Int) + 1 := IntWalk.i64_in _ (by omega)
        have hw2 : (0 : Int) ≤ (n : Int) + 1 := by omega
        have hw3 : (n : Int) + 1 ≤ (t.length : Int) := by omega
        have hw4 : ((n : Int) + 1).toNat = n + 1 := by omega
        have hw5 : (0 : Int) ≤ (n : Int) := by omega
        have hw6 : (n : Int) < (t.length : Int) := by omega
        clear hov hbh hovl hbhl
        go_wp2_with fail
        go_quiet (fail)
        clear hw1 hw2 hw3 hw4 hw5 hw6
        simp only [SU.out, SF.out]
        have hbq : Below w.heap.size w (w'.drewN nq) := bDrewN hb0 nq
        have HGQ : Hid ((w'.drewN nq).heap[w.heap.size]? = some (.cells #[.bool false, .slice none 0 0, .slice none 0 0] 24 (0, 0))) := Lib.hid HGA.out
        generalize w'.drewN nq = wq at *
        by_cases hbe : bh = []
        · have hemp : bh.isEmpty = true := by rw [hbe]; rfl
          have HE : Hid (bh.length = 0) := Lib.hid (by rw [hbe]; rfl)
          subst hbe
          clear SU SF HGA hb0
          go_wp2_with (with_reducible refine wpList_store_row rfl 24 (.tmp 2) (.tmp 47) rfl w.heap.size #[.bool false, .slice none 0 0, .slice none 0 0] rfl rfl 24 #[.bool false, .slice none 0 0, .slice none 0 0] HGQ.out (HI3.out _ _ _ _ _ _ _) rfl (three_one _ _ _ _ _ _ _) ?_)
          refine bodyPost_ret (results_cell_row_tmp (by rfl) _ _ w.heap.size 24 #[.bool false, .slice none 0 0, .slice none 0 0] (0, 0) _ _ (by rfl) (by rfl) (rheap_same HGQ.out) Tryd.underlying24 rfl (HI3.out _ _ _ _ _ _ _)) rfl (MakeOut.of (by rw [HEQ0.out, if_pos (.inl HE.out)]; rfl) rfl (isRes_nil _) (isRes_nil _) (rBelow.setRow hbq (by omega) _))
        · have hemp : bh.isEmpty = false := by cases bh with | nil => exact absurd rfl hbe | cons a r => rfl
          have HBE : Hid (¬ bh.length = 0) := Lib.hid (by cases bh with | nil => exact absurd rfl hbe | cons a r => simp)
          have LB := Lib.hid (fun (wx : World) => leading_any bh wx (by omega))
          clear SU SF HGA hb0
          go_wp2_with fail
          refine (LB.out _).mono ?_
          rintro e w'' ⟨rfl, rfl⟩
          have hlb := Dg.lead_le bh
          by_cases hm : Dg.lead bh < bh.length
          · have HM := Lib.hid hm
            have g1 : decide (Dg.lead bh < bh.length) = true := decide_eq_true hm
            go_wp2_with (with_reducible refine wpList_store_row rfl 24 (.tmp 2) (.tmp 47) rfl w.heap.size #[.bool false, .slice none 0 0, .slice none 0 0] rfl rfl 24 #[.bool false, .slice none 0 0, .slice none 0 0] HGQ.out (HI3.out _ _ _ _ _ _ _) rfl (three_one _ _ _ _ _ _ _) ?_)
            refine bodyPost_ret (results_cell_row_tmp (by rfl) _ _ w.heap.size 24 #[.bool false, .slice none 0 0, .slice none 0 0] (0, 0) _ _ (by rfl) (by rfl) (rheap_same HGQ.out) Tryd.underlying24 rfl (HI3.out _ _ _ _ _ _ _)) rfl (MakeOut.of (by rw [HEQ0.out, if_pos (.inr HM.out)]; rfl) rfl (isRes_nil _) (isRes_nil _) (rBelow.setRow hbq (by omega) _))
          · have g1 : decide (Dg.lead bh < bh.length) = false := decide_eq_false hm
            have HM : Hid (¬ (bh.length = 0 ∨ Dg.lead bh < bh.length)) := Lib.hid (fun h => h.elim HBE.out hm)
            have HBD : Hid (∀ b ∈ bh, Ten.isDig b) := Lib.hid (Dg.lead_full (by omega))
            clear LB hlb
            have HY114 : Hid (y = 114 → t.getD n 0 = 114) := Lib.hid (fun h => UInt8.toNat_inj.1 (by rw [← HY.out, h]; rfl))
            have HY46 : Hid (y = 46 → t.getD n 0 = 46) := Lib.hid (fun h => UInt8.toNat_inj.1 (by rw [← HY.out, h]; rfl))
            have HYN : Hid (∀ b : UInt8, t.getD n 0 = b → y = b.toNat) := Lib.hid (fun b h => by rw [HY.out, h])
            by_cases h114 : y = 114
            · have HD := Lib.hid (HY114.out h114)
              have q114 : ((y : Int) == 114) = true := by rw [h114]; rfl
              have HU : Hid (bh.length ≤ 1000 ∧ ∀ b ∈ bh, Ten.isDig b) := Lib.hid ⟨by omega, HBD.out⟩
              clear h114
              have NO := Lib.hid (fun (wx : World) => number_any ov wx HO.out.1 HO.out.2)
              have NU := Lib.hid (fun (wx : World) => number_any bh wx HU.out.1 HU.out.2)
              go_wp2_with fail
              refine (NO.out _).mono ?_
              rintro e w2 ⟨v1, rfl, hr1, hb2⟩
              have HR1 := Lib.hid hr1
              have HG2 := Lib.hid ((hb2.block w.heap.size (blk_lt HGQ.out)).trans HGQ.out)
              have hbw2 := hbq.trans (hb2.mono hbq.size)
              obtain ⟨A1, c1, rfl, -⟩ := hr1
              go_wp2_with fail
              refine (NU.out _).mono ?_
              rintro e w3 ⟨v2, rfl, hr2, hb3⟩
              have MK := Lib.hid (makeOf_any neg _ _ ov bh w3 (HR1.out.below hb3) hr2 HO.out.2 HU.out.2 HO.out.1 HU.out.1)
              have HG3 := Lib.hid ((hb3.block w.heap.size (blk_lt HG2.out)).trans HG2.out)
              have hbw3 := hbw2.trans (hb3.mono hbw2.size)
              obtain ⟨A2, c2, rfl, -⟩ := hr2
              clear hb2 hb3 HG2 hbw2 HR1
              go_wp2_with fail
              refine MK.out.mono ?_
              rintro e w4 ⟨r1, r2, rfl, hr3, hr4, hb4⟩
              have HG4 := Lib.hid ((hb4.block w.heap.size (blk_lt HG3.out)).trans HG3.out)
              have hbw4 := hbw3.trans (hb4.mono hbw3.size)
              have HR3 := Lib.hid (hr3.setRow HG4.out (three_no_int _ _ _ _ _ _ _) #[.bool (Rt.mk neg false (Ten.numOf ov) (Ten.numOf bh)).1.neg, r1, r2])
              have HR4 := Lib.hid (hr4.setRow HG4.out (three_no_int _ _ _ _ _ _ _) #[.bool (Rt.mk neg false (Ten.numOf ov) (Ten.numOf bh)).1.neg, r1, r2])
              have HEQ := Lib.hid (show Dg.body neg t = Rt.mk neg false (Ten.numOf ov) (Ten.numOf bh) by rw [HEQ0.out, if_neg HM.out, if_pos HD.out])
              obtain ⟨A3, c3, rfl, -⟩ := hr3
              obtain ⟨A4, c4, rfl, -⟩ := hr4
              clear MK hb4 HG3 hbw3
              generalize Rt.mk neg false (Ten.numOf ov) (Ten.numOf bh) = R at *
              obtain ⟨⟨rn, rt, rb⟩, re⟩ := R
              dsimp only at HR3 HR4 HEQ ⊢
              go_wp2_with (with_reducible refine wpList_store_row rfl 24 (.tmp 2) (.tmp 71) rfl w.heap.size #[.bool rn, .slice A3 rt.length c3, .slice A4 rb.length c4] rfl rfl 24 #[.bool false, .slice none 0 0, .slice none 0 0] HG4.out (HI3.out _ _ _ _ _ _ _) rfl (three_one _ _ _ _ _ _ _) ?_)
              refine bodyPost_ret (results_cell_row_tmp (by rfl) _ _ w.heap.size 24 #[.bool rn, .slice A3 rt.length c3, .slice A4 rb.length c4] (0, 0) _ _ (by rfl) (by rfl) (rheap_same HG4.out) Tryd.underlying24 rfl (HI3.out _ _ _ _ _ _ _)) rfl (MakeOut.of HEQ.out rfl HR3.out HR4.out (rBelow.setRow hbw4 (by omega) _))
            · have q114 : ((y : Int) == 114) = false := beq_eq_false_iff_ne.2 (by omega)
              have HD1 : Hid (¬ t.getD n 0 = 114) := Lib.hid (fun h => h114 (HYN.out _ h))
              clear h114
              by_cases h46 : y = 46
              · have HD := Lib.hid (HY46.out h46)
                have q46 : ((y : Int) == 46) = true := by rw [h46]; rfl
                have RP := Tryd.strings_Repeat ⟨#[48]⟩ bh.length wq (by omega) (by show 1 * bh.length ≤ _; omega)
                rw [show (⟨#[48]⟩ : ByteArray).data.toList = [48] from rfl, rep_eq] at RP
                obtain ⟨ZR, hZR⟩ : ∃ ZR, ZR = List.replicate bh.length (48 : UInt8) := ⟨_, rfl⟩
                obtain ⟨o2, ho2⟩ : ∃ o2, o2 = ov ++ bh := ⟨_, rfl⟩
                obtain ⟨u2, hu2⟩ : ∃ u2, u2 = (49 : UInt8) :: ZR := ⟨_, rfl⟩
                rw [← hZR] at RP
                have hZl : ZR.length = bh.length := by rw [hZR, List.length_replicate]
                have hZl2 : ZR.length ≤ 400 := by omega
                have HN2 : Hid (Ten.numOf u2 = 10 ^ bh.length) := Lib.hid (by rw [hu2, hZR]; exact Dg.numOf_zeros _)
                have SO2 : Hid ((⟨ov.toArray⟩ : ByteArray) ++ ⟨bh.toArray⟩ = ⟨o2.toArray⟩) := Lib.hid (by apply ByteArray.ext; rw [ho2]; simp)
                have SU2 : Hid ((⟨#[49]⟩ : ByteArray) ++ ⟨ZR.toArray⟩ = ⟨u2.toArray⟩) := Lib.hid (by apply ByteArray.ext; rw [hu2]; simp)
                have HO2 : Hid (o2.length ≤ 1000 ∧ ∀ b ∈ o2, Ten.isDig b) := Lib.hid ⟨by rw [ho2, List.length_append]; omega, by
                  intro b hb; rw [ho2] at hb; rcases List.mem_append.1 hb with hb | hb
                  · exact HO.out.2 b hb
                  · exact HBD.out b hb⟩
                have HU : Hid (u2.length ≤ 1000 ∧ ∀ b ∈ u2, Ten.isDig b) := Lib.hid ⟨by rw [hu2, List.length_cons]; omega, by
                  intro b hb; rw [hu2, hZR] at hb; rcases List.mem_cons.1 hb with rfl | hb
                  · exact ⟨by decide, by decide⟩
                  · rw [List.eq_of_mem_replicate hb]; exact ⟨by decide, by decide⟩⟩
                have HEV : Hid (Dg.body neg t = Rt.mk neg false (Ten.numOf o2) (Ten.numOf u2)) := Lib.hid (by rw [HEQ0.out, if_neg HM.out, if_neg HD1.out, if_pos HD.out, HN2.out, ho2])
                have HRP := Lib.hid RP
                clear h46 hZR ho2 hu2 RP hZl HO
                have HO := HO2
                clear HO2
                go_wp2_with fail
                refine HRP.out.mono ?_
                rintro e w7 ⟨rfl, hb7⟩
                have HG7 := Lib.hid ((hb7.block w.heap.size (blk_lt HGQ.out)).trans HGQ.out)
                have hbw7 := hbq.trans (hb7.mono hbq.size)
                clear hb7 HRP hbq HGQ
                simp only [SO2.out]
                have NO := Lib.hid (fun (wx : World) => number_any o2 wx HO.out.1 HO.out.2)
                have NU := Lib.hid (fun (wx : World) => number_any u2 wx HU.out.1 HU.out.2)
                go_wp2_with fail
                simp only [SU2.out, SO2.out]
                refine (NO.out _).mono ?_
                rintro e w2 ⟨v1, rfl, hr1, hb2⟩
                have HR1 := Lib.hid hr1
                have HG2 := Lib.hid ((hb2.block w.heap.size (blk_lt HG7.out)).trans HG7.out)
                have hbw2 := hbw7.trans (hb2.mono hbw7.size)
                obtain ⟨A1, c1, rfl, -⟩ := hr1
                go_wp2_with fail
                refine (NU.out _).mono ?_
                rintro e w3 ⟨v2, rfl, hr2, hb3⟩
                have MK := Lib.hid (makeOf_any neg _ _ o2 u2 w3 (HR1.out.below hb3) hr2 HO.out.2 HU.out.2 HO.out.1 HU.out.1)
                have HG3 := Lib.hid ((hb3.block w.heap.size (blk_lt HG2.out)).trans HG2.out)
                have hbw3 := hbw2.trans (hb3.mono hbw2.size)
                obtain ⟨A2, c2, rfl, -⟩ := hr2
                clear hb2 hb3 HG2 hbw2 HR1
                go_wp2_with fail
                refine MK.out.mono ?_
                rintro e w4 ⟨r1, r2, rfl, hr3, hr4, hb4⟩
                have HG4 := Lib.hid ((hb4.block w.heap.size (blk_lt HG3.out)).trans HG3.out)
                have hbw4 := hbw3.trans (hb4.mono hbw3.size)
                have HR3 := Lib.hid (hr3.setRow HG4.out (three_no_int _ _ _ _ _ _ _) #[.bool (Rt.mk neg false (Ten.numOf o2) (Ten.numOf u2)).1.neg, r1, r2])
                have HR4 := Lib.hid (hr4.setRow HG4.out (three_no_int _ _ _ _ _ _ _) #[.bool (Rt.mk neg false (Ten.numOf o2) (Ten.numOf u2)).1.neg, r1, r2])
                have HEQ := Lib.hid (show Dg.body neg t = Rt.mk neg false (Ten.numOf o2) (Ten.numOf u2) by exact HEV.out)
                obtain ⟨A3, c3, rfl, -⟩ := hr3
                obtain ⟨A4, c4, rfl, -⟩ := hr4
                clear MK hb4 HG3 hbw3
                generalize Rt.mk neg false (Ten.numOf o2) (Ten.numOf u2) = R at *
                obtain ⟨⟨rn, rt, rb⟩, re⟩ := R
                dsimp only at HR3 HR4 HEQ ⊢
                go_wp2_with (with_reducible refine wpList_store_row rfl 24 (.tmp 2) (.tmp 71) rfl w.heap.size #[.bool rn, .slice A3 rt.length c3, .slice A4 rb.length c4] rfl rfl 24 #[.bool false, .slice none 0 0, .slice none 0 0] HG4.out (HI3.out _ _ _ _ _ _ _) rfl (three_one _ _ _ _ _ _ _) ?_)
                refine bodyPost_ret (results_cell_row_tmp (by rfl) _ _ w.heap.size 24 #[.bool rn, .slice A3 rt.length c3, .slice A4 rb.length c4] (0, 0) _ _ (by rfl) (by rfl) (rheap_same HG4.out) Tryd.underlying24 rfl (HI3.out _ _ _ _ _ _ _)) rfl (MakeOut.of HEQ.out rfl HR3.out HR4.out (rBelow.setRow hbw4 (by omega) _))
              · have q46 : ((y : Int) == 46) = false := beq_eq_false_iff_ne.2 (by omega)
                have HD2 : Hid (¬ t.getD n 0 = 46) := Lib.hid (fun h => h46 (HYN.out _ h))
                clear h46
                go_wp2_with (with_reducible refine wpList_store_row rfl 24 (.tmp 2) (.tmp 49) rfl w.heap.size #[.bool false, .slice none 0 0, .slice none 0 0] rfl rfl 24 #[.bool false, .slice none 0 0, .slice none 0 0] HGQ.out (HI3.out _ _ _ _ _ _ _) rfl (three_one _ _ _ _ _ _ _) ?_)
                refine bodyPost_ret (results_cell_row_tmp (by rfl) _ _ w.heap.size 24 #[.bool false, .slice none 0 0, .slice none 0 0] (0, 0) _ _ (by rfl) (by rfl) (rheap_same HGQ.out) Tryd.underlying24 rfl (HI3.out _ _ _ _ _ _ _)) rfl (MakeOut.of (by rw [HEQ0.out, if_neg HM.out, if_neg HD1.out, if_neg HD2.out]; rfl) rfl (isRes_nil _) (isRes_nil _) (rBelow.setRow hbq (by omega) _))
      · have HO : Hid (t.length ≤ 1000 ∧ ∀ b ∈ t, Ten.isDig b) := Lib.hid ⟨by omega, Dg.lead_full (by rw [← HN.out]; omega)⟩
        have HU : Hid (([49] : List UInt8).length ≤ 1000 ∧ ∀ b ∈ ([49] : List UInt8), Ten.isDig b) := Lib.hid ⟨by decide, by intro b hb; rw [List.mem_singleton] at hb; subst hb; exact ⟨by decide, by decide⟩⟩
        have HLE : Hid (n = t.length) := Lib.hid (by omega)
        have hst : (⟨t.toArray⟩ : ByteArray).extract 0 n = ⟨t.toArray⟩ := by rw [str_upto t n (by omega), HLE.out, List.take_length]
        have HST := Lib.hid hst
        clear hst
        go_wp2_with fail
        rw [HST.out]
        have NO := Lib.hid (fun (wx : World) => number_any t wx HO.out.1 HO.out.2)
        have NU := Lib.hid (fun (wx : World) => number_any [49] wx HU.out.1 HU.out.2)
        go_wp2_with fail
        refine (NO.out _).mono ?_
        rintro e w2 ⟨v1, rfl, hr1, hb2⟩
        have HR1 := Lib.hid hr1
        have HG2 := Lib.hid ((hb2.block w.heap.size (blk_lt HGA.out)).trans HGA.out)
        have hbw2 := hb0.trans (hb2.mono hb0.size)
        obtain ⟨A1, c1, rfl, -⟩ := hr1
        go_wp2_with fail
        refine (NU.out _).mono ?_
        rintro e w3 ⟨v2, rfl, hr2, hb3⟩
        have MK := Lib.hid (makeOf_any neg _ _ t [49] w3 (HR1.out.below hb3) hr2 HO.out.2 HU.out.2 HO.out.1 HU.out.1)
        have HG3 := Lib.hid ((hb3.block w.heap.size (blk_lt HG2.out)).trans HG2.out)
        have hbw3 := hbw2.trans (hb3.mono hbw2.size)
        obtain ⟨A2, c2, rfl, -⟩ := hr2
        clear hb2 hb3 HG2 hbw2 HR1
        go_wp2_with fail
        refine MK.out.mono ?_
        rintro e w4 ⟨r1, r2, rfl, hr3, hr4, hb4⟩
        have HG4 := Lib.hid ((hb4.block w.heap.size (blk_lt HG3.out)).trans HG3.out)
        have hbw4 := hbw3.trans (hb4.mono hbw3.size)
        have HR3 := Lib.hid (hr3.setRow HG4.out (three_no_int _ _ _ _ _ _ _) #[.bool (Rt.mk neg false (Ten.numOf t) (Ten.numOf [49])).1.neg, r1, r2])
        have HR4 := Lib.hid (hr4.setRow HG4.out (three_no_int _ _ _ _ _ _ _) #[.bool (Rt.mk neg false (Ten.numOf t) (Ten.numOf [49])).1.neg, r1, r2])
        have HEQ := Lib.hid (show Dg.body neg t = Rt.mk neg false (Ten.numOf t) (Ten.numOf [49]) by unfold Dg.body; rw [if_neg H400.out, if_neg HL0.out, if_pos (by rw [← HN.out]; exact HLE.out), numOf_one])
        obtain ⟨A3, c3, rfl, -⟩ := hr3
        obtain ⟨A4, c4, rfl, -⟩ := hr4
        clear MK hb4 HG3 hbw3
        generalize Rt.mk neg false (Ten.numOf t) (Ten.numOf [49]) = R at *
        obtain ⟨⟨rn, rt, rb⟩, re⟩ := R
        dsimp only at HR3 HR4 HEQ ⊢
        go_wp2_with (with_reducible refine wpList_store_row rfl 24 (.tmp 2) (.tmp 71) rfl w.heap.size #[.bool rn, .slice A3 rt.length c3, .slice A4 rb.length c4] rfl rfl 24 #[.bool false, .slice none 0 0, .slice none 0 0] HG4.out (HI3.out _ _ _ _ _ _ _) rfl (three_one _ _ _ _ _ _ _) ?_)
        refine bodyPost_ret (results_cell_row_tmp (by rfl) _ _ w.heap.size 24 #[.bool rn, .slice A3 rt.length c3, .slice A4 rb.length c4] (0, 0) _ _ (by rfl) (by rfl) (rheap_same HG4.out) Tryd.underlying24 rfl (HI3.out _ _ _ _ _ _ _)) rfl (MakeOut.of HEQ.out rfl HR3.out HR4.out (rBelow.setRow hbw4 (by omega) _))
end Go.Proofs.YtfiefglagknclaaDoor
