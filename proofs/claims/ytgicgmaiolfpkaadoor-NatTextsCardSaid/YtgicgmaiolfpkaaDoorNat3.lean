/-
  What nat.Norm, nat.Add and nat.Sub compute: the digits of the number, of the sum, of the difference.
-/
import Derived.Test.YtgicgmaiolfpkaaDoorNat2
import Derived.Test.YtgicgmaiolfpkaaDoorBlk
import Derived.Test.YtgicgmaiolfpkaaDoorNatBits
import Derived.Laws.CopyOwn
namespace Go.Proofs.YtgicgmaiolfpkaaDoor
open Go.RowKit
set_option maxHeartbeats 1000000
set_option linter.unusedVariables false

theorem u32_info : (Tryd.prog.info? 30).map (fun i => (i.zero, i.size, i.bytes)) = some (some (.int .u32 0), 1, 4) := by kernel_rfl
theorem u32_size : (Tryd.prog.info? 30).map (·.size) = some 1 := by kernel_rfl
theorem U_one (l : List Nat) : ∀ v ∈ U l, v.oneCell' = true := by
  intro v hv
  obtain ⟨n, _, rfl⟩ := List.mem_map.1 hv
  rfl
theorem U_take (l : List Nat) (n : Nat) : (U l).take n = U (l.take n) := List.map_take.symm
theorem Lies.digs {w : World} {B : Nat} {A : Option Addr} {l : List Nat} (h : Lies w B A (U l)) (ho : Nt.Ok l) : Lies w B A (U (Nt.digs (Nt.val l))) := by
  have := h.take (Nt.digs (Nt.val l)).length
  rw [U_take, Nt.take_digs ho] at this
  exact this
/-- The source of a copy: an address wherever there is a limb. -/
theorem Lies.src {w : World} {B : Nat} {A : Option Addr} {vs : List Value} (h : Lies w B A vs) (hp : 0 < vs.length) : ∃ ad, A = some ad ∧ ∀ (j : Nat) (v : Value), vs[j]? = some v → w.cell? (ad.add j) = some v := by
  rcases h with h | ⟨b, off, hA, _, hc⟩
  · subst h; simp at hp
  · refine ⟨⟨b, off, none⟩, hA, fun j v hv => ?_⟩
    have := hc j v hv
    unfold Addr.add
    split
    · rename_i e; subst e; simpa using this
    · exact this

/-- copy of limbs into the head of a block of the call's own. -/
theorem copy_limbs {w : World} {ops : Array Oper} {rest : List Oper} {o : Oper} {a : Act} {Q : Exit → Act → World → Prop} (hgd : o.guard = none) (d s : Operand)
    (ho : o.op = .call { callee := .builtin .copy, args := #[d, s], argTypes := #[22, 22] })
    (A : Option Addr) (dCap sCap g : Nat) (ds : List Nat) (hd : a.eval d = .slice (some ⟨g, 0, none⟩) ds.length dCap) (hs : a.eval s = .slice A ds.length sCap)
    (cur : List Value) (hg : Blk w g 30 cur) (hfit : ds.length ≤ cur.length) (B0 : Nat) (hsrc : Lies w B0 A (U ds)) (B : Nat) (w0 : World) (hb : Below B w0 w) (hBg : B ≤ g)
    (h : ∀ w', Blk w' g 30 (U ds ++ cur.drop ds.length) → Below B w0 w' → wpList Tryd.prog ops Q rest (a.put o.dst (goInt ds.length)) w') :
    wpList Tryd.prog ops Q (o :: rest) a w := by
  refine wpList_copy_splice hgd d s _ _ ho 30 Tryd.underlying22 u32_size _ _ _ _ _ _ hd hs g 0 cur 30 hg (U ds) (by simp [U]) (fun hp => ⟨rfl, hsrc.src hp⟩) (by simp [U]; omega) (U_one ds) B w0 hb hBg ?_
  intro w' hw' hb'
  rw [U_len]
  refine h w' ?_ hb'
  have := hw'.out
  unfold Blk
  rw [this]
  simp [splice, U_len]

theorem norm_any (A : Option Addr) (c B : Nat) (l : List Nat) (w : World) (hl : Lies w B A (U l)) (hB : B ≤ w.heap.size) (ho : Nt.Ok l) (hc : l.length ≤ c) (hm : c ≤ 9223372036854775807) (hs : l.length ≤ 70368744177664) :
    Calls Tryd.prog 12 #[.slice A l.length c] w fun e w' => e = .returned (.slice (some ⟨w.heap.size, 0, none⟩) (Nt.digs (Nt.val l)).length (Nt.digs (Nt.val l)).length) ∧ Blk w' w.heap.size 30 (U (Nt.digs (Nt.val l))) ∧ Below w.heap.size w w' := by
  obtain ⟨i0, hi, hz0, hz1, hz2⟩ := info_parts u32_info
  have hd := Nt.digs_len_le ho
  have HT := Lib.hid (trim_any A c B l w hl ho hc hm)
  have HL := Lib.hid ((hl.digs ho).more hB)
  clear hl
  generalize Nt.digs (Nt.val l) = ds at *
  go_enter Tryd.func12, Tryd.ntmps12
  go_wp2_with fail
  refine HT.out.mono ?_
  rintro e w' ⟨rfl, rfl⟩
  go_wp2_with (first
    | (at_make; refine wpList_make_blk _ rfl _ _ 22 rfl 30 i0 (.int .u32 0) Tryd.underlying22 hi hz0 hz1 rfl .i64 .i64 _ _ ds.length ds.length rfl rfl rfl rfl (Nat.le_refl _) (by rw [hz2]; omega) (by omega) w.heap.size w (Below.refl _ _) (Nat.le_refl _) ?_; intro w1 hblk1 hb1 hb1' hlt1)
    | (refine copy_limbs (by rfl) (.tmp 9) (.tmp 10) (by rfl) A ds.length ds.length w.heap.size ds (by rfl) (by rfl) _ hblk1 (by simp) w.heap.size (HL.out.below hb1) w.heap.size w hb1 (Nat.le_refl _) ?_; intro w2 hblk2 hb2))
  go_ret
  rw [List.drop_eq_nil_of_le (by simp), List.append_nil] at hblk2
  exact ⟨rfl, hblk2, hb2⟩
/-! ### Add -/
end Go.Proofs.YtgicgmaiolfpkaaDoor
