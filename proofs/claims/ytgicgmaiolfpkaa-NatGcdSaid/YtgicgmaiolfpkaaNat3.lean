/-
  What nat.Norm, nat.Add and nat.Sub compute: the digits of the number, of the sum, of the difference.
-/
import Derived.Test.YtgicgmaiolfpkaaNat2
import Derived.Test.YtgicgmaiolfpkaaBlk
import Derived.Test.YtgicgmaiolfpkaaNatBits
import Derived.Laws.CopyOwn
namespace Go.Proofs.Ytgicgmaiolfpkaa
open Go.RowKit
set_option maxHeartbeats 1000000
set_option linter.unusedVariables false

theorem u32_info : (Try.prog.info? 32).map (fun i => (i.zero, i.size, i.bytes)) = some (some (.int .u32 0), 1, 4) := by kernel_rfl
theorem u32_size : (Try.prog.info? 32).map (·.size) = some 1 := by kernel_rfl
theorem U_one (l : List Nat) : ∀ v ∈ U l, v.oneCell' = true := by
  intro v hv
  obtain ⟨n, _, rfl⟩ := List.mem_map.1 hv
  rfl
theorem U_take (l : List Nat) (n : Nat) : (U l).take n = U (l.take n) := List.map_take.symm
theorem Lies.digs {w : World} {B : Nat} {A : Option Addr} {l : List Nat} (h : Lies w B A (U l)) (ho : Nt.Ok l) : Lies w B A (U (Nt.digs (Nt.val l))) := by
  have := h.take (Nt.digs (Nt.val l)).length
  rw [U_take, Nt.take_digs ho] at this
  exact this
/-- The source of a copy: an address wherever there is a limb. -/
theorem Lies.src {w : World} {B : Nat} {A : Option Addr} {vs : List Value} (h : Lies w B A vs) (hp : 0 < vs.length) : ∃ ad, A = some ad ∧ ∀ (j : Nat) (v : Value), vs[j]? = some v → w.cell? (ad.add j) = some v := by
  rcases h with h | ⟨b, off, hA, _, hc⟩
  · subst h; simp at hp
  · refine ⟨⟨b, off, none⟩, hA, fun j v hv => ?_⟩
    have := hc j v hv
    unfold Addr.add
    split
    · rename_i e; subst e; simpa using this
    · exact this

/-- copy of limbs into the head of a block of the call's own. -/
theorem copy_limbs {w : World} {ops : Array Oper} {rest : List Oper} {o : Oper} {a : Act} {Q : Exit → Act → World → Prop} (hgd : o.guard = none) (d s : Operand)
    (ho : o.op = .call { callee := .builtin .copy, args := #[d, s], argTypes := #[22, 22] })
    (A : Option Addr) (dCap sCap g : Nat) (ds : List Nat) (hd : a.eval d = .slice (some ⟨g, 0, none⟩) ds.length dCap) (hs : a.eval s = .slice A ds.length sCap)
    (cur : List Value) (hg : Blk w g 32 cur) (hfit : ds.length ≤ cur.length) (B0 : Nat) (hsrc : Lies w B0 A (U ds)) (B : Nat) (w0 : World) (hb : Below B w0 w) (hBg : B ≤ g)
    (h : ∀ w', Blk w' g 32 (U ds ++ cur.drop ds.length) → Below B w0 w' → wpList Try.prog ops Q rest (a.put o.dst (goInt ds.length)) w') :
    wpList Try.prog ops Q (o :: rest) a w := by
  refine wpList_copy_splice hgd d s _ _ ho 32 Try.underlying22 u32_size _ _ _ _ _ _ hd hs g 0 cur 32 hg (U ds) (by simp [U]) (fun hp => ⟨rfl, hsrc.src hp⟩) (by simp [U]; omega) (U_one ds) B w0 hb hBg ?_
  intro w' hw' hb'
  rw [U_len]
  refine h w' ?_ hb'
  have := hw'.out
  unfold Blk
  rw [this]
  simp [splice, U_len]

theorem norm_any (A : Option Addr) (c B : Nat) (l : List Nat) (w : World) (hl : Lies w B A (U l)) (hB : B ≤ w.heap.size) (ho : Nt.Ok l) (hc : l.length ≤ c) (hm : c ≤ 9223372036854775807) (hs : l.length ≤ 70368744177664) :
    Calls Try.prog 19 #[.slice A l.length c] w fun e w' => e = .returned (.slice (some ⟨w.heap.size, 0, none⟩) (Nt.digs (Nt.val l)).length (Nt.digs (Nt.val l)).length) ∧ Blk w' w.heap.size 32 (U (Nt.digs (Nt.val l))) ∧ Below w.heap.size w w' := by
  obtain ⟨i0, hi, hz0, hz1, hz2⟩ := info_parts u32_info
  have hd := Nt.digs_len_le ho
  have HT := Lib.hid (trim_any A c B l w hl ho hc hm)
  have HL := Lib.hid ((hl.digs ho).more hB)
  clear hl
  generalize Nt.digs (Nt.val l) = ds at *
  go_enter Try.func19, Try.ntmps19
  go_wp2_with fail
  refine HT.out.mono ?_
  rintro e w' ⟨rfl, rfl⟩
  go_wp2_with (first
    | (at_make; refine wpList_make_blk _ rfl _ _ 22 rfl 32 i0 (.int .u32 0) Try.underlying22 hi hz0 hz1 rfl .i64 .i64 _ _ ds.length ds.length rfl rfl rfl rfl (Nat.le_refl _) (by rw [hz2]; omega) (by omega) w.heap.size w (Below.refl _ _) (Nat.le_refl _) ?_; intro w1 hblk1 hb1 hb1' hlt1)
    | (refine copy_limbs (by rfl) (.tmp 9) (.tmp 10) (by rfl) A ds.length ds.length w.heap.size ds (by rfl) (by rfl) _ hblk1 (by simp) w.heap.size (HL.out.below hb1) w.heap.size w hb1 (Nat.le_refl _) ?_; intro w2 hblk2 hb2))
  go_ret
  rw [List.drop_eq_nil_of_le (by simp), List.append_nil] at hblk2
  exact ⟨rfl, hblk2, hb2⟩
/-! ### Add -/
theorem add_any (A A' : Option Addr) (c c' B : Nat) (a b : List Nat) (w : World) (hx : Lies w B A (U a)) (hy : Lies w B A' (U b)) (hB : B ≤ w.heap.size) (ha : Nt.Ok a) (hb : Nt.Ok b)
    (hc : a.length ≤ c) (hc' : b.length ≤ c') (hm : c ≤ 9223372036854775807) (hm' : c' ≤ 9223372036854775807) (hs : a.length ≤ 17592186044416) (hs' : b.length ≤ 17592186044416) :
    Calls Try.prog 20 #[.slice A a.length c, .slice A' b.length c'] w fun e w' => ∃ v, e = .returned v ∧ w'.ownsRow w.heap.size 32 1 v (Nt.digs (Nt.val a + Nt.val b)).length (U (Nt.digs (Nt.val a + Nt.val b))) ∧ Below w.heap.size w w' := by
  obtain ⟨i0, hi, hz0, hz1, hz2⟩ := info_parts u32_info
  have ha' := Nt.digs_len_le ha
  have hb' := Nt.digs_len_le hb
  have TA := Lib.hid (trim_any A c B a w hx ha hc hm)
  have TB := Lib.hid (trim_any A' c' B b w hy hb hc' hm')
  have LA := Lib.hid ((hx.digs ha).more hB)
  have LB := Lib.hid ((hy.digs hb).more hB)
  have OA := Lib.hid (Nt.ok_digs (Nt.val a))
  have OB := Lib.hid (Nt.ok_digs (Nt.val b))
  clear hx hy
  generalize Nt.val a = x at *
  generalize Nt.val b = y at *
  have AD0 := Lib.hid (fun cur h hq => Nt.add_done0 (x := x) (y := y) (cur := cur) h hq)
  have AD1 := Lib.hid (fun cur h hq => Nt.add_done1 (x := x) (y := y) (cur := cur) h hq)
  have BD0 := Lib.hid (fun cur h hq => Nt.add_done0 (x := y) (y := x) (cur := cur) h hq)
  have BD1 := Lib.hid (fun cur h hq => Nt.add_done1 (x := y) (y := x) (cur := cur) h hq)
  rw [Nat.add_comm y x] at BD0 BD1
  generalize Nt.digs (x + y) = dz at *
  generalize Nt.digs x = da at *
  generalize Nt.digs y = db at *
  by_cases hab : da.length < db.length
  · go_enter Try.func20, Try.ntmps20
    go_wp2_with fail
    refine TA.out.mono ?_
    rintro e w' ⟨rfl, rfl⟩
    go_wp2_with fail
    refine TB.out.mono ?_
    rintro e w' ⟨rfl, rfl⟩
    go_wp2_with (first
      | (at_make; refine wpList_make_blk _ rfl _ _ 22 rfl 32 i0 (.int .u32 0) Try.underlying22 hi hz0 hz1 rfl .i64 .i64 _ _ db.length (db.length + 1) rfl rfl rfl (by go_num) (by omega) (by rw [hz2]; omega) (by omega) w.heap.size w (Below.refl _ _) (Nat.le_refl _) ?_; intro w1 hblk1 hb1 hb1' hlt1)
      | (refine copy_limbs (by rfl) (.tmp 26) (.tmp 27) (by rfl) A' (db.length + 1) db.length w.heap.size db (by rfl) (by rfl) _ hblk1 (by simp) w.heap.size (LB.out.below hb1) w.heap.size w hb1 (Nat.le_refl _) ?_; intro w2 hblk2 hb2))
    have hblk0 : Blk w2 w.heap.size 32 (U db ++ [.int .u32 0]) := by simpa using hblk2
    have hsz2 := hblk0.lt
    clear hblk1 hblk2 hb1 hb1' hlt1
    go_loopw [6, 31] (fun cv i wr => ∃ (k c : Nat) (cur : List Nat), k ≤ db.length ∧ c ≤ 1 ∧ i = .int .i64 (k : Int) ∧ cv = .int .u32 (c : Int) ∧ Blk wr w.heap.size 32 (U cur ++ [.int .u32 0]) ∧ Below w.heap.size w wr ∧ Hid (Nt.AddAt db da cur k c)) (fun _ i _ => db.length - (intOf i).toNat)
    case atStart => exact ⟨0, 0, db, Nat.zero_le _, by omega, rfl, rfl, hblk0, hb2, Lib.hid (Nt.add_start OB.out)⟩
    case round =>
      clear hblk0 hb2 hsz2
      obtain ⟨k, c, cur, hk, hc1, rfl, rfl, hblk, hbel, H⟩ := hrel
      by_cases hlt : k < db.length
      · have hcl : cur.length = db.length := H.out.1
        have hget := Nt.add_get H.out hlt
        have hcell : wr.cell? ⟨w.heap.size, k, none⟩ = some (.int .u32 ((db[k] : Nat) : Int)) := hblk.cell (by
          rw [List.getElem?_append_left (by rw [U_len, hcl]; exact hlt), U, List.getElem?_map, hget]; rfl)
        have hfz := hblk.frozen k
        have hxb := Nt.ok_get OB.out hlt
        have ST : Hid (∀ s d, s < 4294967296 → db[k] + da.getD k 0 + c = s + 4294967296 * d → Nt.AddAt db da (cur.set k s) (k + 1) d) := Lib.hid (fun s d hs e => Nt.add_step H.out hlt hs e)
        have BS : Hid (∀ s : Nat, Blk (wr.setCell ⟨w.heap.size, k, none⟩ (.int .u32 (s : Int))) w.heap.size 32 (U (cur.set k s) ++ [.int .u32 0])) := Lib.hid (fun s => by
          have := hblk.set_ k (.int .u32 (s : Int))
          rw [List.set_append_left _ _ (by rw [U_len, hcl]; exact hlt), show (U cur).set k (.int .u32 (s : Int)) = U (cur.set k s) from List.map_set.symm] at this
          exact this)
        have hsz := hblk.lt
        have HOWN : Hid (wr.ownsRow w.heap.size 32 1 (.slice (some ⟨w.heap.size, 0, none⟩) db.length (db.length + 1)) db.length (U cur)) := Lib.hid (by
          have := hblk.own (base := w.heap.size) (n := db.length) (Nat.le_refl _) (by simp [U]; omega) (by simp [U, maxLen]; omega)
          rw [List.length_append, U_len, hcl, List.take_append_of_le_length (by rw [U_len]; omega), List.take_of_length_le (by rw [U_len]; omega)] at this
          exact this)
        clear hcl hget hblk
        generalize db[k] = x at hcell hxb ST
        by_cases hq : k < da.length
        · obtain ⟨b2, off2, rfl, hb2, hc2⟩ := (LA.out.below hbel).limb hq
          have hyb := Nt.ok_get OA.out hq
          have HG : Hid (da.getD k 0 = da[k]) := Lib.hid (by rw [List.getD_eq_getElem?_getD, List.getElem?_eq_getElem hq]; rfl)
          generalize da[k] = y at hc2 hyb HG
          go_wp2_with (go_at_call 34; refine (add32_any _ _ _ _ hxb hyb hc1).mono ?_; rintro e w' ⟨s, d, rfl, hs, hd1, HE, rfl⟩)
          go_roundw
          case rel => exact ⟨k + 1, d, cur.set k s, by omega, hd1, by go_num, rfl, BS.out s, hbel.setCell (Nat.le_refl _) _, Lib.hid (ST.out s d hs (by rw [HG.out]; exact HE.out))⟩
          case measure => simp [intOf]; omega
        · have HG : Hid (da.getD k 0 = 0) := Lib.hid (by rw [List.getD_eq_getElem?_getD, List.getElem?_eq_none (by omega)]; rfl)
          by_cases hc0 : c = 0
          · subst hc0
            have HE : Hid (dz = cur) := Lib.hid (BD0.out cur (.inr ⟨k, H.out, by omega, by omega⟩) (by omega))
            have HL : Hid (cur.length = db.length) := Lib.hid H.out.1
            go_wp2_with fail
            go_ret
            refine ⟨_, rfl, ?_, hbel⟩
            rw [HE.out, HL.out]
            exact HOWN.out
          · obtain rfl : c = 1 := by omega
            go_wp2_with (go_at_call 34; refine (add32_any _ 0 1 _ hxb (by omega) (by omega)).mono ?_; rintro e w' ⟨s, d, rfl, hs, hd1, HE, rfl⟩)
            go_roundw
            case rel => exact ⟨k + 1, d, cur.set k s, by omega, hd1, by go_num, rfl, BS.out s, hbel.setCell (Nat.le_refl _) _, Lib.hid (ST.out s d hs (by rw [HG.out]; exact HE.out))⟩
            case measure => simp [intOf]; omega
      · obtain rfl : k = db.length := by omega
        have hcl : cur.length = db.length := H.out.1
        have hsz := hbel.size
        have hown : wr.ownsRow w.heap.size 32 1 (.slice (some ⟨w.heap.size, 0, none⟩) db.length (db.length + 1)) db.length (U cur) := by
          have := hblk.own (base := w.heap.size) (n := db.length) (Nat.le_refl _) (by simp [U]; omega) (by simp [U, maxLen]; omega)
          rw [List.length_append, U_len, hcl, List.take_append_of_le_length (by rw [U_len]; omega), List.take_of_length_le (by rw [U_len]; omega)] at this
          exact this
        have HL := Lib.hid hcl
        clear hcl hblk
        by_cases hc0 : c = 0
        · subst hc0
          have HE : Hid (dz = cur) := Lib.hid (BD0.out cur (.inl H.out) (by omega))
          go_wp2_with fail
          go_ret
          refine ⟨_, rfl, ?_, hbel⟩
          rw [HE.out, HL.out]
          exact hown
        · obtain rfl : c = 1 := by omega
          have HE : Hid (dz = cur ++ [1]) := Lib.hid (BD1.out cur H.out (by omega))
          go_wp2_with (at_builtin; refine wpList_append_own _ rfl _ _ 22 rfl w.heap.size 32 i0 (.int .u32 0) 1 4 Try.underlying22 hi hz0 hz1 hz2 rfl (by decide) _ _ _ rfl (hown.alloc _) ⟨_, 0, none⟩ 1 1 [.int .u32 1] rfl rfl (cell_one_new _ _ _) (by intro u hu; simp only [List.mem_singleton] at hu; subst hu; rfl) (by unfold maxLen; omega) (by omega) (by simp; omega) ?_; intro v3 w3 hown3 hgrow3 hnn3)
          have hb3 : Below w.heap.size w w3 := (hbel.alloc hsz _).grown hgrow3 (by simp; omega) (fun k hk => (hown.lt k hk).1)
          go_ret
          refine ⟨_, rfl, ?_, hb3⟩
          rw [HE.out, List.length_append, HL.out]
          simpa [U] using hown3
  · go_enter Try.func20, Try.ntmps20
    go_wp2_with fail
    refine TA.out.mono ?_
    rintro e w' ⟨rfl, rfl⟩
    go_wp2_with fail
    refine TB.out.mono ?_
    rintro e w' ⟨rfl, rfl⟩
    go_wp2_with (first
      | (at_make; refine wpList_make_blk _ rfl _ _ 22 rfl 32 i0 (.int .u32 0) Try.underlying22 hi hz0 hz1 rfl .i64 .i64 _ _ da.length (da.length + 1) rfl rfl rfl (by go_num) (by omega) (by rw [hz2]; omega) (by omega) w.heap.size w (Below.refl _ _) (Nat.le_refl _) ?_; intro w1 hblk1 hb1 hb1' hlt1)
      | (refine copy_limbs (by rfl) (.tmp 26) (.tmp 27) (by rfl) A (da.length + 1) da.length w.heap.size da (by rfl) (by rfl) _ hblk1 (by simp) w.heap.size (LA.out.below hb1) w.heap.size w hb1 (Nat.le_refl _) ?_; intro w2 hblk2 hb2))
    have hblk0 : Blk w2 w.heap.size 32 (U da ++ [.int .u32 0]) := by simpa using hblk2
    have hsz2 := hblk0.lt
    clear hblk1 hblk2 hb1 hb1' hlt1
    go_loopw [6, 31] (fun cv i wr => ∃ (k c : Nat) (cur : List Nat), k ≤ da.length ∧ c ≤ 1 ∧ i = .int .i64 (k : Int) ∧ cv = .int .u32 (c : Int) ∧ Blk wr w.heap.size 32 (U cur ++ [.int .u32 0]) ∧ Below w.heap.size w wr ∧ Hid (Nt.AddAt da db cur k c)) (fun _ i _ => da.length - (intOf i).toNat)
    case atStart => exact ⟨0, 0, da, Nat.zero_le _, by omega, rfl, rfl, hblk0, hb2, Lib.hid (Nt.add_start OA.out)⟩
    case round =>
      clear hblk0 hb2 hsz2
      obtain ⟨k, c, cur, hk, hc1, rfl, rfl, hblk, hbel, H⟩ := hrel
      by_cases hlt : k < da.length
      · have hcl : cur.length = da.length := H.out.1
        have hget := Nt.add_get H.out hlt
        have hcell : wr.cell? ⟨w.heap.size, k, none⟩ = some (.int .u32 ((da[k] : Nat) : Int)) := hblk.cell (by
          rw [List.getElem?_append_left (by rw [U_len, hcl]; exact hlt), U, List.getElem?_map, hget]; rfl)
        have hfz := hblk.frozen k
        have hxb := Nt.ok_get OA.out hlt
        have ST : Hid (∀ s d, s < 4294967296 → da[k] + db.getD k 0 + c = s + 4294967296 * d → Nt.AddAt da db (cur.set k s) (k + 1) d) := Lib.hid (fun s d hs e => Nt.add_step H.out hlt hs e)
        have BS : Hid (∀ s : Nat, Blk (wr.setCell ⟨w.heap.size, k, none⟩ (.int .u32 (s : Int))) w.heap.size 32 (U (cur.set k s) ++ [.int .u32 0])) := Lib.hid (fun s => by
          have := hblk.set_ k (.int .u32 (s : Int))
          rw [List.set_append_left _ _ (by rw [U_len, hcl]; exact hlt), show (U cur).set k (.int .u32 (s : Int)) = U (cur.set k s) from List.map_set.symm] at this
          exact this)
        have hsz := hblk.lt
        have HOWN : Hid (wr.ownsRow w.heap.size 32 1 (.slice (some ⟨w.heap.size, 0, none⟩) da.length (da.length + 1)) da.length (U cur)) := Lib.hid (by
          have := hblk.own (base := w.heap.size) (n := da.length) (Nat.le_refl _) (by simp [U]; omega) (by simp [U, maxLen]; omega)
          rw [List.length_append, U_len, hcl, List.take_append_of_le_length (by rw [U_len]; omega), List.take_of_length_le (by rw [U_len]; omega)] at this
          exact this)
        clear hcl hget hblk
        generalize da[k] = x at hcell hxb ST
        by_cases hq : k < db.length
        · obtain ⟨b2, off2, rfl, hb2, hc2⟩ := (LB.out.below hbel).limb hq
          have hyb := Nt.ok_get OB.out hq
          have HG : Hid (db.getD k 0 = db[k]) := Lib.hid (by rw [List.getD_eq_getElem?_getD, List.getElem?_eq_getElem hq]; rfl)
          generalize db[k] = y at hc2 hyb HG
          go_wp2_with (go_at_call 34; refine (add32_any _ _ _ _ hxb hyb hc1).mono ?_; rintro e w' ⟨s, d, rfl, hs, hd1, HE, rfl⟩)
          go_roundw
          case rel => exact ⟨k + 1, d, cur.set k s, by omega, hd1, by go_num, rfl, BS.out s, hbel.setCell (Nat.le_refl _) _, Lib.hid (ST.out s d hs (by rw [HG.out]; exact HE.out))⟩
          case measure => simp [intOf]; omega
        · have HG : Hid (db.getD k 0 = 0) := Lib.hid (by rw [List.getD_eq_getElem?_getD, List.getElem?_eq_none (by omega)]; rfl)
          by_cases hc0 : c = 0
          · subst hc0
            have HE : Hid (dz = cur) := Lib.hid (AD0.out cur (.inr ⟨k, H.out, by omega, by omega⟩) (by omega))
            have HL : Hid (cur.length = da.length) := Lib.hid H.out.1
            go_wp2_with fail
            go_ret
            refine ⟨_, rfl, ?_, hbel⟩
            rw [HE.out, HL.out]
            exact HOWN.out
          · obtain rfl : c = 1 := by omega
            go_wp2_with (go_at_call 34; refine (add32_any _ 0 1 _ hxb (by omega) (by omega)).mono ?_; rintro e w' ⟨s, d, rfl, hs, hd1, HE, rfl⟩)
            go_roundw
            case rel => exact ⟨k + 1, d, cur.set k s, by omega, hd1, by go_num, rfl, BS.out s, hbel.setCell (Nat.le_refl _) _, Lib.hid (ST.out s d hs (by rw [HG.out]; exact HE.out))⟩
            case measure => simp [intOf]; omega
      · obtain rfl : k = da.length := by omega
        have hcl : cur.length = da.length := H.out.1
        have hsz := hbel.size
        have hown : wr.ownsRow w.heap.size 32 1 (.slice (some ⟨w.heap.size, 0, none⟩) da.length (da.length + 1)) da.length (U cur) := by
          have := hblk.own (base := w.heap.size) (n := da.length) (Nat.le_refl _) (by simp [U]; omega) (by simp [U, maxLen]; omega)
          rw [List.length_append, U_len, hcl, List.take_append_of_le_length (by rw [U_len]; omega), List.take_of_length_le (by rw [U_len]; omega)] at this
          exact this
        have HL := Lib.hid hcl
        clear hcl hblk
        by_cases hc0 : c = 0
        · subst hc0
          have HE : Hid (dz = cur) := Lib.hid (AD0.out cur (.inl H.out) (by omega))
          go_wp2_with fail
          go_ret
          refine ⟨_, rfl, ?_, hbel⟩
          rw [HE.out, HL.out]
          exact hown
        · obtain rfl : c = 1 := by omega
          have HE : Hid (dz = cur ++ [1]) := Lib.hid (AD1.out cur H.out (by omega))
          go_wp2_with (at_builtin; refine wpList_append_own _ rfl _ _ 22 rfl w.heap.size 32 i0 (.int .u32 0) 1 4 Try.underlying22 hi hz0 hz1 hz2 rfl (by decide) _ _ _ rfl (hown.alloc _) ⟨_, 0, none⟩ 1 1 [.int .u32 1] rfl rfl (cell_one_new _ _ _) (by intro u hu; simp only [List.mem_singleton] at hu; subst hu; rfl) (by unfold maxLen; omega) (by omega) (by simp; omega) ?_; intro v3 w3 hown3 hgrow3 hnn3)
          have hb3 : Below w.heap.size w w3 := (hbel.alloc hsz _).grown hgrow3 (by simp; omega) (fun k hk => (hown.lt k hk).1)
          go_ret
          refine ⟨_, rfl, ?_, hb3⟩
          rw [HE.out, List.length_append, HL.out]
          simpa [U] using hown3
end Go.Proofs.Ytgicgmaiolfpkaa
