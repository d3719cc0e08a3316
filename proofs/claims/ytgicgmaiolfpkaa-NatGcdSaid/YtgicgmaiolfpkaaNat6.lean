/-
  What scrimref02.Add, Sub, Bit and twice compute.
-/
import Derived.Test.YtgicgmaiolfpkaaNat5
namespace Go.Proofs.Ytgicgmaiolfpkaa
open Go.RowKit
set_option maxHeartbeats 1000000
set_option linter.unusedVariables false

/-- The head of each: two numbers that came in. -/
theorem own_norm {w0 w : World} {v : Value} {ds : List Nat} (h : w.ownsRow w0.heap.size 32 1 v ds.length (U ds)) (ho : Nt.Ok ds) (hs : ds.length ≤ 17592186044416) (hb : Below w0.heap.size w0 w) :
    Calls Try.prog 14 #[v] w fun e w' => ∃ v', e = .returned v' ∧ IsRes w' v' (Nt.digs (Nt.val ds)) ∧ Below w0.heap.size w0 w' := by
  obtain ⟨A, c, rfl, h1, h2, h3, h4⟩ := IsRes.of_own h
  refine (refNorm_any A c w.heap.size ds w h4 (Nat.le_refl _) ho h1 h2 h3 hs).mono ?_
  rintro e w' ⟨v', rfl, hr, hb'⟩
  exact ⟨v', rfl, hr, hb.trans (hb'.mono hb.size)⟩

theorem refAdd_any (A A' : Option Addr) (c c' B : Nat) (a b : List Nat) (w : World) (hx : Lies w B A (U a)) (hy : Lies w B A' (U b)) (hB : B ≤ w.heap.size) (ha : Nt.Ok a) (hb : Nt.Ok b)
    (hc : a.length ≤ c) (hc' : b.length ≤ c') (hm : c ≤ 9223372036854775807) (hm' : c' ≤ 9223372036854775807) (hs : a.length ≤ 8796093022208) (hs' : b.length ≤ 8796093022208) :
    Calls Try.prog 21 #[.slice A a.length c, .slice A' b.length c'] w fun e w' => ∃ v, e = .returned v ∧ IsRes w' v (Nt.digs (Nt.val a + Nt.val b)) ∧ Below w.heap.size w w' := by
  obtain ⟨i0, hi, hz0, hz1, hz2⟩ := info_parts u32_info
  obtain ⟨n, hn⟩ : ∃ n, n = max a.length b.length := ⟨_, rfl⟩
  have hna : a.length ≤ n := by omega
  have hnb : b.length ≤ n := by omega
  have hnm : n ≤ 8796093022208 := by omega
  have HN := Lib.hid hn
  have LA := Lib.hid (fun (i : Nat) (wr : World) (hi : i ≤ 9223372036854775807) (h : Below w.heap.size w wr) => limb_any A c B a i wr (hx.below (h.mono hB)) hc hm hi ha)
  have LB := Lib.hid (fun (i : Nat) (wr : World) (hi : i ≤ 9223372036854775807) (h : Below w.heap.size w wr) => limb_any A' c' B b i wr (hy.below (h.mono hB)) hc' hm' hi hb)
  have GA := Lib.hid (fun k => Nt.getD_lt ha k)
  have GB := Lib.hid (fun k => Nt.getD_lt hb k)
  have EN := Lib.hid (fun cur c h => Nt.addUp_end (cur := cur) (n := n) (c := c) ha hb hna hnb h)
  clear hx hy ha hb hn
  go_enter Try.func21, Try.ntmps21
  go_wp2_with fail
  go_loopw [5, 6, 7] (fun v cv i wr => ∃ (k cy : Nat) (cur : List Nat), k ≤ n + 1 ∧ cy ≤ 1 ∧ i = .int .i64 (k : Int) ∧ cv = .int .u64 (cy : Int) ∧ wr.ownsRow w.heap.size 32 1 v k (U cur) ∧ Below w.heap.size w wr ∧ Hid (Nt.AddUp a b cur k cy)) (fun _ _ i _ => n + 1 - (intOf i).toNat)
  case atStart => exact ⟨0, 0, [], by omega, by omega, rfl, rfl, World.ownsRow_nil _ _ _ _, Below.refl _ _, Lib.hid (Nt.addUp_start a b)⟩
  case round =>
    obtain ⟨k, cy, cur, hk, hcy, rfl, rfl, hown, hbel, H⟩ := hrel
    have hsz := hbel.size
    by_cases hlt : k ≤ n
    · have CA := Lib.hid (LA.out k wr (by omega) hbel)
      have CB := Lib.hid (LB.out k wr (by omega) hbel)
      have ST := Lib.hid (Nt.addUp_step H.out)
      have hga := GA.out k
      have hgb := GB.out k
      generalize a.getD k 0 = x at CA ST hga
      generalize b.getD k 0 = y at CB ST hgb
      go_wp2_with fail
      refine (longer_any A A' a.length b.length c c' _ (by omega) (by omega)).mono ?_
      rintro e w' ⟨rfl, rfl⟩
      rw [← HN.out]
      go_wp2_with fail
      refine CA.out.mono ?_
      rintro e w' ⟨rfl, rfl⟩
      go_wp2_with fail
      refine CB.out.mono ?_
      rintro e w' ⟨rfl, rfl⟩
      go_wp2_with (at_builtin; refine wpList_append_own _ rfl _ _ 22 rfl w.heap.size 32 i0 (.int .u32 0) 1 4 Try.underlying22 hi hz0 hz1 hz2 rfl (by decide) _ _ _ rfl (hown.alloc _) ⟨_, 0, none⟩ 1 1 [.int .u32 (((x : Int) + (y : Int) + (cy : Int)) % 4294967296)] rfl rfl (cell_one_new _ _ _) (by intro u hu; simp only [List.mem_singleton] at hu; subst hu; rfl) (by unfold maxLen; omega) (by omega) (by simp; omega) ?_; intro v3 w3 hown3 hgrow3 hnn3)
      have hb3 : Below w.heap.size w w3 := (hbel.alloc hsz _).grown hgrow3 (by simp; omega) (fun k hk => (hown.lt k hk).1)
      go_roundw
      case rel =>
        refine ⟨k + 1, (x + y + cy) / 4294967296, cur ++ [(x + y + cy) % 4294967296], by omega, by omega, by go_num, congrArg (Value.int .u64) (by omega), ?_, hb3, Lib.hid ST.out⟩
        have e : U (cur ++ [(x + y + cy) % 4294967296]) = U cur ++ [.int .u32 (((x : Int) + (y : Int) + (cy : Int)) % 4294967296)] := by
          unfold U; rw [List.map_append]; congr 2
        rw [e]; exact hown3
      case measure => simp [intOf]; omega
    · obtain rfl : k = n + 1 := by omega
      have HV := Lib.hid (EN.out cur cy H.out)
      have HL := H.out.1
      have hO := H.out.2.1
      have hnorm := own_norm (w0 := w) (v := u5) (ds := cur) (by rw [HL]; exact hown) hO (by rw [HL]; omega) hbel
      rw [HV.out] at hnorm
      have HNM := Lib.hid hnorm
      clear hnorm HL hO
      go_wp2_with fail
      refine (longer_any A A' a.length b.length c c' _ (by omega) (by omega)).mono ?_
      rintro e w' ⟨rfl, rfl⟩
      rw [← HN.out]
      go_wp2_with fail
      refine HNM.out.mono ?_
      rintro e w' ⟨v', rfl, hr, hb'⟩
      go_wp2_with fail
      go_ret
      exact ⟨_, rfl, hr, hb'⟩
end Go.Proofs.Ytgicgmaiolfpkaa
