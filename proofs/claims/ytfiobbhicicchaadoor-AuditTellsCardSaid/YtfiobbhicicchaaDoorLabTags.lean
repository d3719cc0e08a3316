/-
  What math/bits.TrailingZeros64 and label.Tags compute: the lowest tag; all tags, rising.
-/
import Derived.Test.YtfiobbhicicchaaDoorWords
import Derived.Test.YtfiobbhicicchaaDoorLabMath
import Derived.Test.YtfiobbhicicchaaDoorLabBits
import Derived.Shelf.Spec.TrailingZeros
import Derived.Laws.MakeOwn
namespace Go.Proofs.YtfiobbhicicchaaDoor
open Go.RowKit
set_option maxHeartbeats 1000000

/-- The table of math/bits lies in its variable. -/
def Tab64 (w : World) : Prop := TabAt 0 Lib.deBruijn64tab w
theorem Tab64.below {w w' : World} {B : Nat} (h : Tab64 w) (hB : 0 < B) (hb : Below B w w') : Tab64 w' := fun j hj => (hb.cell (p := ⟨0, j, none⟩) hB).trans (h j hj)

theorem tz_core (x k idx : Nat) (w : World) (hx0 : ((x : Int) == 0) = false)
    (key : IntKind.u64.wrap (bits BinOp.and IntKind.u64 (x : Int) (IntKind.u64.wrap (-(x : Int))) * 285870213051353865) / 288230376151711744 = (idx : Int))
    (hi : idx < 64) (hk : k < 64) (hcell : w.cell? ⟨0, idx, none⟩ = some (.int .u8 k)) :
    Calls Tryd.prog 40 #[.int .u64 x] w fun e w' => e = .returned (.int .i64 k) ∧ w = w' := by
  go_enter Tryd.func40, Tryd.ntmps40
  go_wp2_with (simp only [key])
  go_ret
  exact ⟨rfl, rfl⟩
theorem tz_any (x : Nat) (hx : x < 18446744073709551616) (h0 : x ≠ 0) (w : World) (hT : Tab64 w) :
    Calls Tryd.prog 40 #[.int .u64 x] w fun e w' => e = .returned (.int .i64 (Lib.ctz 64 x)) ∧ w = w' := by
  obtain ⟨hlow, hk⟩ := Lib.lowest_bit 64 x h0 hx
  obtain ⟨hi, htab⟩ := Lib.deBruijn64_at _ hk
  have hcell := hT _ hi
  rw [htab] at hcell
  exact tz_core x _ _ w (by simp; omega) (tz64_key x _ hx h0 hlow) hi hk hcell

theorem tags_lib {l : Nat} (hl : l < 18446744073709551616) (h0 : l ≠ 0) : Lab.tags l = Lib.ctz 64 l :: Lab.tags (l &&& (l - 1)) := by
  obtain ⟨m, hm, hk⟩ := Lib.ctzFrom_spec 64 l (by omega) hl
  have e : Lib.ctz 64 l = Lib.ctzFrom 64 l := by simp [Lib.ctz, h0]
  rw [e]
  exact Lab.tags_step hm hk

theorem int_info : (Tryd.prog.info? 3).map (fun i => (i.zero, i.size, i.bytes)) = some (some (.int .i64 0), 1, 8) := by kernel_rfl

theorem tags_any (l : Nat) (w : World) (hl : l < 18446744073709551616) (hT : Tab64 w) (hB : 0 < w.heap.size) :
    Calls Tryd.prog 36 #[.int .u64 (l : Int)] w fun e w' => ∃ v, e = .returned v ∧ w'.ownsRow w.heap.size 3 1 v (Lab.tags l).length ((Lab.tags l).map fun t : Nat => Value.int .i64 (t : Int)) ∧ Below w.heap.size w w' := by
  obtain ⟨i0, hi, hz0, hz1, hz2⟩ := info_parts int_info
  have hc := Ones.cnt_le 64 l
  have HT := Lib.hid hT
  clear hT
  go_enter Tryd.func36, Tryd.ntmps36
  go_wp2_with (first
    | (go_at_call 39; refine (size_any _ _ hl).mono ?_; rintro e w' ⟨rfl, rfl⟩)
    | (at_make; refine wpList_make_own _ rfl _ _ 26 rfl w.heap.size 3 i0 (.int .i64 0) 1 Tryd.underlying26 hi hz0 hz1 .i64 .i64 _ (Ones.cnt 64 l) rfl rfl rfl (by rw [hz2]; omega) (by unfold maxLen; omega) (Nat.le_refl _) ?_; intro w0 hown0 hgrow0))
  have hbel0 : Below w.heap.size w w0 := (Below.refl _ _).grown hgrow0 (Nat.le_refl _) (by simp)
  clear hgrow0
  go_loopw [0, 3] (fun x v wr => ∃ (n : Nat) (done : List Nat), n < 18446744073709551616 ∧ x = .int .u64 (n : Int) ∧ Hid (done ++ Lab.tags n = Lab.tags l) ∧
      wr.ownsRow w.heap.size 3 1 v done.length (done.map fun t : Nat => Value.int .i64 (t : Int)) ∧ Below w.heap.size w wr) (fun x _ _ => (intOf x).toNat)
  case atStart => exact ⟨l, [], hl, rfl, Lib.hid rfl, hown0, hbel0⟩
  case round =>
    clear hown0 hbel0
    obtain ⟨n, done, hn, rfl, H, hown, hbel⟩ := hrel
    by_cases h0 : n = 0
    · subst h0
      go_wp2_with fail
      go_ret
      refine ⟨_, rfl, ?_, hbel⟩
      have := H.out
      rw [Lab.tags_zero, List.append_nil] at this
      rw [← this]
      exact hown
    · have hne : (((n : Nat) : Int) != 0) = true := by simp; omega
      have hpos : 1 ≤ n := by omega
      have HC := Lib.hid (tags_lib hn h0)
      have HD : Hid (done.length + 1 ≤ 64) := by
        have h1 := Lab.tags_len l
        rw [← H.out, HC.out, List.length_append, List.length_cons] at h1
        exact Nat.le_trans (by omega) h1
      have hd := HD.out
      have hsz := hbel.size
      have hTr : Tab64 w := HT.out
      have HTr := Lib.hid (hTr.below hB hbel)
      clear hTr
      go_wp2_with (first
        | (go_at_call 40; refine (tz_any _ hn h0 _ HTr.out).mono ?_; rintro e w' ⟨rfl, rfl⟩)
        | (at_builtin; refine wpList_append_own _ rfl _ _ 26 rfl w.heap.size 3 i0 (.int .i64 0) 1 8 Tryd.underlying26 hi hz0 hz1 hz2 rfl (by decide) _ _ _ rfl (hown.alloc _) ⟨wr.heap.size, 0, none⟩ 1 1 [.int .i64 (Lib.ctz 64 n : Int)] rfl rfl (cell_one_new _ _ _) (by intro u hu; simp only [List.mem_singleton] at hu; subst hu; rfl) (by unfold maxLen; omega) (by omega) (by simp; omega) ?_; intro v1 w1 hown1 hgrow1 hnn1))
      have hbel1 : Below w.heap.size w w1 := (hbel.alloc hsz _).grown hgrow1 (by simp; omega) (fun k hk => (hown.lt k hk).1)
      clear hown hgrow1 hnn1
      have hand : bits BinOp.and IntKind.u64 (↑n) (↑n - 1) = ((n &&& (n - 1) : Nat) : Int) := by
        rw [show ((n : Int) - 1) = ((n - 1 : Nat) : Int) from by omega]
        exact u64_and_nat n (n - 1) hn (by omega)
      have hlt := Lab.and_pred_lt h0
      go_roundw
      case rel =>
        refine ⟨n &&& (n - 1), done ++ [Lib.ctz 64 n], by omega, congrArg (Value.int .u64) hand, Lib.hid ?_, ?_, hbel1⟩
        · rw [List.append_assoc, List.singleton_append, ← HC.out]; exact H.out
        · simpa using hown1
      case measure =>
        rw [hand]
        simp only [intOf, Int.toNat_natCast]
        exact hlt
end Go.Proofs.YtfiobbhicicchaaDoor
