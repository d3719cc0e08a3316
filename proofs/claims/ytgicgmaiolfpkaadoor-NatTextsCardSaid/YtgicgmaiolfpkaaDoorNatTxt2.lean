/-
  What nat.Text computes.
-/
import Derived.Test.YtgicgmaiolfpkaaDoorNatTxt
import Derived.Test.YtgicgmaiolfpkaaDoorNat10
import Derived.Test.YtgicgmaiolfpkaaDoorBldLaid
namespace Go.Proofs.YtgicgmaiolfpkaaDoor
open Go.RowKit
set_option maxHeartbeats 1000000
set_option maxRecDepth 100000
set_option linter.unusedVariables false

theorem own_keep {w w' : World} {base n : Nat} {t : TypeId} {v : Value} {xs : List Value} (h : w.ownsRow base t 1 v n xs) (hk : ∀ g, base ≤ g → g < w.heap.size → w'.heap[g]? = w.heap[g]?) : w'.ownsRow base t 1 v n xs := by
  refine ⟨h.1, ?_⟩
  rcases h.2 with h2 | ⟨g, cap, cur, hv, hb, hg, hr⟩
  · exact .inl h2
  · refine .inr ⟨g, cap, cur, hv, hb, ?_, hr⟩
    rw [hk g hb (by
      rcases Nat.lt_or_ge g w.heap.size with h' | h'
      · exact h'
      · rw [Array.getElem?_eq_none h'] at hg; cases hg)]
    exact hg
theorem builder_below {w w' : World} {T e : TypeId} {B b : Nat} {bs : List Value} (h : Lib.IsBuilder T e B b bs w) (hb : Below w.heap.size w w') : Lib.IsBuilder T e B b bs w' := by
  have one : ∀ {p : Value}, Lib.BuilderAt T e B b p bs w → Lib.BuilderAt T e B b p bs w' := fun {p} k => by
    have hlt := k.lt
    obtain ⟨h1, v, h2, h3, h4⟩ := k
    exact ⟨h1, v, (hb.block b hlt).trans h2, own_keep h3 (fun g _ hg => hb.block g hg), h4⟩
  exact h.imp one one
theorem tabIs_below {P : Program} {w w' : World} {name : String} {k : IntKind} {zs : List Int} {B : Nat} (h : Lib.TabIs P w name k zs) (hb : Below B w w') (hg : ∀ g, P.globalNamed name = some g → g < B) : Lib.TabIs P w' name k zs := by
  unfold Lib.TabIs World.var? at *
  cases he : P.globalNamed name with
  | none => simp [he] at h
  | some g =>
    simp only [he, Option.bind_some] at h ⊢
    rw [hb.block g (hg g he)]
    exact h
def sliceLen : Value → Nat
  | .slice _ n _ => n
  | _ => 0
def grps (v i : Nat) : List Nat := (List.range i).map (Ten.grp v)
theorem grps_len (v i : Nat) : (grps v i).length = i := by simp [grps]
theorem grps_next (v i : Nat) : grps v (i + 1) = grps v i ++ [Ten.grp v i] := by simp [grps, List.range_succ]
theorem grps_at {v i j : Nat} (h : j < i) : (grps v i)[j]? = some (Ten.grp v j) := by
  rw [grps, List.getElem?_map, List.getElem?_range h]; rfl
theorem rounds_top (k : Nat) {v i : Nat} (hv : v < topE k) (h : 0 < v / 1000000000 ^ i) : 9 * i < 10 * (k + 1) := by
  rcases Nat.lt_or_ge (9 * i) (10 * (k + 1)) with h' | h'
  · exact h'
  · exfalso
    have h1 : (10 : Nat) ^ (10 * (k + 1)) ≤ 10 ^ (9 * i) := Nat.pow_le_pow_right (by omega) h'
    rw [Nat.pow_mul 10 9 i] at h1
    rw [Nat.div_eq_of_lt (Nat.lt_of_lt_of_le hv h1)] at h
    omega
theorem rounds_le {v i : Nat} (hv : v < topE 999) (h : 0 < v / 1000000000 ^ i) : i < 1112 := by
  have := rounds_top 999 hv h
  omega
theorem val_bound {l : List Nat} (ho : Nt.Ok l) (hs : l.length ≤ 1000) : Nt.val l < topE 999 := val_top 999 ho hs
theorem dec_short {m n : Nat} (h : m ≤ n) (hn : n < topE 999) : (Lib.decDigits m).length ≤ 10000 := dec_top 999 (Nat.lt_of_le_of_lt h hn)
theorem rep_eq : ∀ c, Lib.repeatL [48] c = List.replicate c 48
  | 0 => rfl
  | c + 1 => by rw [Lib.repeatL, rep_eq c, List.replicate_succ]; rfl
theorem div_pos_of {n i j : Nat} (h : 0 < n / 1000000000 ^ j) (hij : i ≤ j) : 0 < n / 1000000000 ^ i :=
  Nat.lt_of_lt_of_le h (Nat.div_le_div_left (Nat.pow_le_pow_right (by omega) hij) (Nat.pow_pos (by omega)))

theorem text_any (A : Option Addr) (c B : Nat) (l : List Nat) (w : World) (hl : Lies w B A (U l)) (hB : B ≤ w.heap.size) (ho : Nt.Ok l) (hc : l.length ≤ c) (hm : c ≤ 9223372036854775807) (hs : l.length ≤ 1000)
    (htab : Lib.TabIs Tryd.prog w "internal/strconv.uint64pow10" .u64 Lib.pow10Tab) (hg : ∀ g, Tryd.prog.globalNamed "internal/strconv.uint64pow10" = some g → g < w.heap.size) :
    Calls Tryd.prog 5 #[.slice A l.length c] w fun e w' => e = .returned (.string ⟨(Lib.decDigits (Nt.val l)).toArray⟩) ∧ Below w.heap.size w w' := by
  obtain ⟨i0, hi, hz0, hz1, hz2⟩ := info_parts u32_info
  have hdl := Nt.digs_len_le ho
  have hlen := dec_bound ho hs
  have hvb := Lib.hid (val_bound ho hs)
  have RN := Lib.hid (norm_any A c B l w hl hB ho hc hm (by omega))
  have HTAB := Lib.hid htab
  have HG := Lib.hid hg
  clear hl ho htab hg
  generalize Nt.val l = n at *
  go_enter Tryd.func5, Tryd.ntmps5
  go_wp2_with fail
  refine RN.out.mono ?_
  rintro e w1 ⟨rfl, hblk1, hb1⟩
  by_cases h0 : n = 0
  · subst h0
    rw [Nt.digs_zero]
    clear RN
    have HZ : Hid (Lib.decDigits 0 = [48]) := Lib.hid (Ten.dec_small (by omega))
    go_wp2_with fail
    go_ret
    rw [HZ.out]
    exact ⟨rfl, hb1⟩
  · have hne : (Nt.digs n).length ≠ 0 := fun e => h0 (Nt.digs_nil_iff.1 (List.eq_nil_of_length_eq_zero e))
    have hne2 : (((Nt.digs n).length : Int) == 0) = false := by rw [beq_eq_false_iff_ne]; omega
    clear RN
    have hsz1 := hblk1.lt
    go_wp2_with (at_make; refine wpList_make_blk _ rfl _ _ 22 rfl 30 i0 (.int .u32 0) Tryd.underlying22 hi hz0 hz1 rfl .i64 .i64 _ _ 0 ((Nt.digs n).length + (Nt.digs n).length / 8 + 1) rfl rfl rfl (by go_num) (by omega) (by rw [hz2]; omega) (by omega) w.heap.size w hb1 (by omega) ?_; intro w2 hblk2 hb2 hb2' hlt2)
    have hown2 : w2.ownsRow (w.heap.size + 1) 30 1 (.slice (some ⟨w1.heap.size, 0, none⟩) 0 ((Nt.digs n).length + (Nt.digs n).length / 8 + 1)) 0 [] := by
      have := hblk2.own (base := w.heap.size + 1) (n := 0) (by omega) (by omega) (by simp [maxLen]; omega)
      simpa using this
    have hblkG := hblk1.keep hb2' hsz1
    clear hblk1 hblk2 hb1 hb2' hlt2
    go_loopw [3, 4] (fun rv gv wr => ∃ (i y cc : Nat) (tl : List Value), i ≤ 1112 ∧ (Nt.digs y).length ≤ 1000 ∧ (Nt.digs y).length ≤ cc ∧ cc ≤ 1000 ∧ rv = .slice (some ⟨w.heap.size, 0, none⟩) (Nt.digs y).length cc ∧ Blk wr w.heap.size 30 (U (Nt.digs y) ++ tl) ∧ wr.ownsRow (w.heap.size + 1) 30 1 gv i (U (grps n i)) ∧ Below w.heap.size w wr ∧ Hid (y = n / 1000000000 ^ i ∧ (i = 0 ∨ 0 < n / 1000000000 ^ (i - 1)))) (fun _ gv _ => 1200 - sliceLen gv)
    case atStart => exact ⟨0, n, (Nt.digs n).length, [], by omega, by omega, Nat.le_refl _, by omega, rfl, by rw [List.append_nil]; exact hblkG, hown2, hb2, Lib.hid ⟨by simp, .inl rfl⟩⟩
    case round =>
      clear hown2 hblkG hb2 hne hne2
      obtain ⟨i, y, cc, tl, hi12, hyl, hycc, hcc, rfl, hblk, hown, hbel, H⟩ := hrel
      have hsz := hbel.size
      have hszG := hblk.lt
      obtain ⟨A2, C2, rfl, hC1, hC2⟩ := own_slice hown
      by_cases hy0 : y = 0
      · subst hy0
        rw [Nt.digs_zero]
        go_wp2_with fail
        have hip : 0 < i := by
          rcases Nat.eq_zero_or_pos i with e | e
          · have := H.out.1; rw [e] at this; simp at this; omega
          · exact e
        have HT0 : Hid (n / 1000000000 ^ i = 0 ∧ 0 < n / 1000000000 ^ (i - 1)) := Lib.hid ⟨H.out.1.symm, H.out.2.resolve_left (by omega)⟩
        have HLG := Lib.hid (Lies.of_own hown)
        have HTABW : Hid (∀ wq, Below wr.heap.size wr wq → Lib.TabIs Tryd.prog wq "internal/strconv.uint64pow10" .u64 Lib.pow10Tab) := Lib.hid (fun wq hq => tabIs_below (tabIs_below HTAB.out hbel HG.out) hq (fun g hg => Nat.lt_of_lt_of_le (HG.out g hg) hsz))
        have hbld0 : Lib.IsBuilder 35 5 wr.heap.size wr.heap.size (Lib.byteCells []) (wr.alloc (.cells #[.pointer none, .slice none 0 0] 35)) := .inl ⟨Nat.le_refl _, .slice none 0 0, heap_alloc_new wr _, World.ownsRow_nil _ _ _ _, by simp [Value.ownBlock]⟩
        have hbq0 : Below wr.heap.size wr (wr.alloc (.cells #[.pointer none, .slice none 0 0] 35)) := (Below.refl _ _).alloc (Nat.le_refl _) _
        clear hown hblk H
        rename World => W
        go_loopw [6] (fun iv wq => ∃ (k : Nat) (T : List UInt8), k ≤ i ∧ T.length ≤ 10000 ∧ iv = .int .i64 ((k : Int) - 1) ∧ Lib.IsBuilder 35 5 W.heap.size W.heap.size (Lib.byteCells T) wq ∧ Below W.heap.size W wq ∧ Hid ((k = i ∧ T = []) ∨ (k < i ∧ T = Lib.decDigits (n / 1000000000 ^ k)))) (fun iv _ => (intOf iv + 1).toNat)
        case atStart => exact ⟨i, [], Nat.le_refl _, by simp, rfl, hbld0, hbq0, Lib.hid (.inl ⟨rfl, rfl⟩)⟩
        case round =>
          clear hbld0 hbq0
          obtain ⟨k, T, hk, hTl, rfl, hbld, hbq, HK⟩ := hrel
          have hszq := hbq.size
          rcases k with _ | k
          · have HT : Hid (T = Lib.decDigits n) := Lib.hid (by
              rcases HK.out with ⟨e, _⟩ | ⟨_, e⟩
              · omega
              · rw [e, Nat.pow_zero, Nat.div_one])
            have BS := Lib.hid (Tryd.Builder_String_any W.heap.size W.heap.size T wr hbld hszq)
            clear hbld
            go_wp2_with (go_at_call 18; refine BS.out.mono ?_; rintro e w7 ⟨rfl, hb7⟩)
            go_ret
            rw [HT.out]
            exact ⟨rfl, hbel.trans ((hbq.trans hb7).mono hsz)⟩
          · have hk1 : ((k + 1 : Nat) : Int) - 1 = (k : Int) := by omega
            rw [hk1]
            clear hk1
            have hki : k < (grps n i).length := by rw [grps_len]; omega
            obtain ⟨b, off, rfl, hbb, hcell⟩ := (HLG.out.below hbq).limb hki
            have hget : (grps n i)[k] = Ten.grp n k := by
              have := grps_at (v := n) (show k < i by omega)
              rw [List.getElem?_eq_getElem hki] at this
              exact Option.some.inj this
            rw [hget] at hcell
            have hgl := Ten.grp_lt n k
            have HTOP : Hid (k + 1 = i → Lib.decDigits (Ten.grp n k) = Lib.decDigits (n / 1000000000 ^ k)) := Lib.hid (fun e => Ten.grp_top (by rw [e]; exact HT0.out.1))
            have HLOW : Hid (k + 1 < i → Lib.decDigits (n / 1000000000 ^ k) = Lib.decDigits (n / 1000000000 ^ (k + 1)) ++ (List.replicate (9 - (Lib.decDigits (Ten.grp n k)).length) 48 ++ Lib.decDigits (Ten.grp n k))) := Lib.hid (fun e => Ten.grp_low (div_pos_of HT0.out.2 (by omega)))
            have HSH : Hid ((Lib.decDigits (n / 1000000000 ^ k)).length ≤ 10000) := Lib.hid (dec_short (Nat.div_le_self _ _) hvb.out)
            have hD := Ten.dec_len (k := 8) (show Ten.grp n k < 10 ^ 9 by simpa using hgl)
            have FU := Lib.hid (formatUint_any (Ten.grp n k) wr (by omega) (HTABW.out wr hbq))
            generalize Ten.grp n k = gq at *
            obtain ⟨D, hDe⟩ : ∃ D, D = Lib.decDigits gq := ⟨_, rfl⟩
            rw [← hDe] at HTOP HLOW hD FU
            clear hDe hget hki
            by_cases hlow : k + 1 < i
            · have HTT : Hid (T ++ (List.replicate (9 - D.length) 48 ++ D) = Lib.decDigits (n / 1000000000 ^ k)) := Lib.hid (by
                rcases HK.out with ⟨e, _⟩ | ⟨_, e⟩
                · omega
                · rw [HLOW.out hlow, e])
              clear HTOP HLOW HK
              go_wp2_with fail
              refine FU.out.mono ?_
              rintro e w6 ⟨rfl, hb6⟩
              have hbld6 := builder_below hbld hb6
              have hbq6 : Below W.heap.size W w6 := hbq.trans (hb6.mono hszq)
              have hsz6 := hbq6.size
              clear hbld hb6
              go_wp2_with fail
              have HTL : Hid ((T ++ (List.replicate (9 - D.length) 48 ++ D)).length ≤ 10000) := Lib.hid (by rw [HTT.out]; exact HSH.out)
              have hci : (9 : Int) - (D.length : Int) = ((9 - D.length : Nat) : Int) := by omega
              rw [hci]
              have RP := Lib.hid (Tryd.strings_Repeat ⟨#[48]⟩ (9 - D.length) w6 (by omega) (by show 1 * (9 - D.length) ≤ _; omega))
              rw [show (⟨#[48]⟩ : ByteArray).data.toList = [48] from rfl, rep_eq] at RP
              obtain ⟨Z, hZ⟩ : ∃ Z, Z = List.replicate (9 - D.length) (48 : UInt8) := ⟨_, rfl⟩
              have hZl : Z.length ≤ 9 := by rw [hZ, List.length_replicate]; omega
              rw [← hZ] at RP HTL HTT
              clear hZ hci
              refine RP.out.mono ?_
              rintro e w8 ⟨rfl, hb8⟩
              have hbld8 := builder_below hbld6 hb8
              have hbq8 : Below W.heap.size W w8 := hbq6.trans (hb8.mono hsz6)
              have hsz8 := hbq8.size
              have WS1 := Lib.hid (writeString_any W.heap.size W.heap.size _ ⟨Z.toArray⟩ w8 hbld8 (by rw [Lib.byteCells_length]; show T.length + Z.length ≤ _; omega) hsz8)
              clear hbld6 hb8 hbld8
              go_wp2_with fail
              refine WS1.out.mono ?_
              rintro e w9 ⟨rfl, hbd9, hb9⟩
              have hbld9 : Lib.IsBuilder 35 5 W.heap.size W.heap.size (Lib.byteCells (T ++ Z)) w9 := .inr (by rw [Lib.byteCells_append]; exact hbd9)
              have hbq9 : Below W.heap.size W w9 := hbq8.trans hb9
              have hsz9 := hbq9.size
              have WS2 := Lib.hid (writeString_any W.heap.size W.heap.size _ ⟨D.toArray⟩ w9 hbld9 (by rw [Lib.byteCells_length, List.length_append]; show T.length + Z.length + D.length ≤ _; omega) hsz9)
              clear hbd9 hb9 hbld9
              go_wp2_with (go_at_call 16; refine WS2.out.mono ?_; rintro e w7 ⟨rfl, hbd7, hb7⟩)
              go_roundw
              case rel => exact ⟨_, _, _, _, _, _, _, _, _, _, _, _, _, _, _, _, _, _, _, _, _, _, _, _, ⟨k, T ++ (Z ++ D), by omega, HTL.out, by go_num, .inr (by rw [← List.append_assoc, Lib.byteCells_append]; exact hbd7), hbq9.trans hb7, Lib.hid (.inr ⟨by omega, HTT.out⟩)⟩, rfl⟩
              case measure => first | (simp [intOf]; done) | (simp [intOf]; omega)
            · have HTT : Hid (T ++ D = Lib.decDigits (n / 1000000000 ^ k)) := Lib.hid (by
                rcases HK.out with ⟨_, e⟩ | ⟨h, _⟩
                · rw [e, List.nil_append]; exact HTOP.out (by omega)
                · omega)
              have HTL : Hid ((T ++ D).length ≤ 10000) := Lib.hid (by rw [HTT.out]; exact HSH.out)
              clear HTOP HLOW HK
              go_wp2_with fail
              refine FU.out.mono ?_
              rintro e w6 ⟨rfl, hb6⟩
              have hbld6 := builder_below hbld hb6
              have hbq6 : Below W.heap.size W w6 := hbq.trans (hb6.mono hszq)
              have hsz6 := hbq6.size
              have WS := Lib.hid (writeString_any W.heap.size W.heap.size _ ⟨D.toArray⟩ w6 hbld6 (by rw [Lib.byteCells_length]; show T.length + D.length ≤ _; omega) hsz6)
              clear hbld hb6 hbld6
              go_wp2_with (go_at_call 16; refine WS.out.mono ?_; rintro e w7 ⟨rfl, hbd7, hb7⟩)
              go_roundw
              case rel => exact ⟨_, _, _, _, _, _, _, _, _, _, _, _, _, _, _, _, _, _, _, _, _, _, _, _, ⟨k, T ++ D, by omega, HTL.out, by go_num, .inr (by rw [Lib.byteCells_append]; exact hbd7), hbq6.trans hb7, Lib.hid (.inr ⟨by omega, HTT.out⟩)⟩, rfl⟩
              case measure => first | (simp [intOf]; done) | (simp [intOf]; omega)
      · have hypos : 0 < (Nt.digs y).length := Nat.pos_of_ne_zero (fun e => hy0 (Nt.digs_nil_iff.1 (List.eq_nil_of_length_eq_zero e)))
        have hi2 : i < 1112 := rounds_le hvb.out (by rw [← H.out.1]; omega)
        have SH := Lib.hid (shorten_any w.heap.size cc 1000000000 (Nt.digs y) tl wr hblk (Nt.ok_digs y) (by omega) (by omega) (by omega))
        rw [Nt.val_digs] at SH
        have HGR : Hid (y % 1000000000 = Ten.grp n i) := Lib.hid (by rw [H.out.1]; rfl)
        rw [HGR.out] at SH
        have hgl := Ten.grp_lt n i
        have HNX : Hid (y / 1000000000 = n / 1000000000 ^ (i + 1) ∧ (i + 1 = 0 ∨ 0 < n / 1000000000 ^ (i + 1 - 1))) := Lib.hid ⟨by rw [H.out.1, Ten.div_next], .inr (by rw [Nat.add_sub_cancel, ← H.out.1]; omega)⟩
        have HLQ : Hid ((Nt.digs (y / 1000000000)).length ≤ 1000) := Lib.hid (Nat.le_trans (Nt.digs_len_le_of (Nat.div_le_self y _)) hyl)
        obtain ⟨gq, hgq⟩ : ∃ gq, gq = Ten.grp n i := ⟨_, rfl⟩
        have HNG : Hid (grps n (i + 1) = grps n i ++ [gq]) := Lib.hid (by rw [hgq]; exact grps_next n i)
        rw [← hgq] at SH hgl
        clear hgq hblk HGR
        go_wp2_with fail
        refine SH.out.mono ?_
        rintro e w3 ⟨cur, rfl, hblk3, HC, hgr3⟩
        have hbel3 : Below w.heap.size w w3 := hbel.grown hgr3 hsz (fun k hk => by injection hk with hk; omega)
        have hown3 : w3.ownsRow (w.heap.size + 1) 30 1 (.slice A2 i C2) i (U (grps n i)) := own_keep hown (fun g hg hgs => hgr3.block g hgs (by intro e; injection e with e; omega))
        have hsz3 := hbel3.size
        have hlt3 := hblk3.lt
        clear hown hgr3
        go_wp2_with (at_builtin; refine wpList_append_own _ rfl _ _ 22 rfl (w.heap.size + 1) 30 i0 (.int .u32 0) 1 4 Tryd.underlying22 hi hz0 hz1 hz2 rfl (by decide) _ _ _ rfl (hown3.alloc _) ⟨_, 0, none⟩ 1 1 [.int .u32 (gq : Int)] rfl rfl (cell_one_new _ _ _) (by intro u hu; simp only [List.mem_singleton] at hu; subst hu; rfl) (by unfold maxLen; omega) (by omega) (by simp; omega) ?_; intro v4 w4 hown4 hgrow4 hnn4)
        have hb4 : Below w.heap.size w w4 := (hbel3.alloc hsz3 _).grown hgrow4 (by simp; omega) (fun k hk => by have := (hown3.lt k hk).1; omega)
        have hblk4 : Blk w4 w.heap.size 30 (U cur ++ tl) := (hblk3.alloc _).grown hgrow4 (by intro e; have := (hown3.lt _ e.symm).1; omega)
        have hcy : cur.length = (Nt.digs y).length := HC.out.1
        have hl4 : Lies w4 w4.heap.size (some ⟨w.heap.size, 0, none⟩) (U cur) := by
          have := (hblk4.lies).take cur.length
          rwa [List.take_append_of_le_length (by rw [U_len]; omega), List.take_of_length_le (by rw [U_len]; omega)] at this
        have TR := Lib.hid (trim_any (some ⟨w.heap.size, 0, none⟩) cc _ cur w4 hl4 HC.out.2.1 (by omega) (by omega))
        rw [HC.out.2.2, hcy] at TR
        have hblk5 : ∃ tl2, Blk w4 w.heap.size 30 (U (Nt.digs (y / 1000000000)) ++ tl2) := ⟨U (cur.drop (Nt.digs (Nt.val cur)).length) ++ tl, by
          have e : U cur = U (Nt.digs (y / 1000000000)) ++ U (cur.drop (Nt.digs (Nt.val cur)).length) := by
            have e0 : cur = Nt.digs (Nt.val cur) ++ cur.drop (Nt.digs (Nt.val cur)).length := by
              conv => lhs; rw [← List.take_append_drop (Nt.digs (Nt.val cur)).length cur, Nt.take_digs HC.out.2.1]
            have e1 := congrArg U e0
            rw [show U (Nt.digs (Nt.val cur) ++ cur.drop (Nt.digs (Nt.val cur)).length) = U (Nt.digs (Nt.val cur)) ++ U (cur.drop (Nt.digs (Nt.val cur)).length) from List.map_append] at e1
            rw [← HC.out.2.2]
            exact e1
          rw [← List.append_assoc, ← e]; exact hblk4⟩
        obtain ⟨tl2, hblk5⟩ := hblk5
        have hlq := HLQ.out
        clear hl4 hblk4 hblk3 HC HLQ hcy
        obtain ⟨A4, C4, rfl, hD1, hD2⟩ := own_slice hown4
        refine TR.out.mono ?_
        rintro e w5 ⟨rfl, rfl⟩
        go_wp2_with fail
        refine ⟨⟨i + 1, y / 1000000000, _, tl2, by omega, hlq, Nat.le_refl _, hlq, rfl, hblk5, ?_, hb4, HNX⟩, by simp [sliceLen]; omega⟩
        rw [HNG.out]
        simpa [U] using hown4
end Go.Proofs.YtgicgmaiolfpkaaDoor
