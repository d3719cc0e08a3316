/-
  Arrays that came in, opened: what the row reads of an argument, as a tree in memory.
-/
import Derived.Test.YtfiobbhicicchaaRec
import Derived.Test.YtfiobbhicicchaaInts
import Derived.SizedLaws
import Derived.ProofKit
import Derived.OpenShut
import Derived.ChangeOld
namespace Go.Proofs.Ytfiobbhicicchaa
open Go.ChangeShapes Go.WideShapes Go.ChangeAt Go.RowKit Ar
set_option linter.unusedVariables false

theorem addr_add2 (a : Addr) (n m : Nat) : (a.add n).add m = a.add (n + m) := by
  unfold Addr.add
  by_cases hn : n = 0
  · subst hn; simp
  · by_cases hm : m = 0
    · subst hm; simp
    · simp [hn, hm, Nat.add_assoc]
theorem addr_add_add {w : World} {a : Addr} {n m : Nat} {v : Value} (h : w.cell? ((a.add n).add m) = some v) : w.cell? (a.add (n + m)) = some v := by rwa [addr_add2] at h

section
variable {H : Type} {enc : TypeId × Value → H} {P : Program} {w : World} {base : Nat} {held : Bool} {fuel : Nat} {t e : TypeId} {cs : List Value} {x : DataW H × List MemPlace}

/-- A slice, opened: its cells in a row, its elements each read. -/
theorem slice_open {sz bytes : Nat} (ht : P.underlying t = some (.slice e)) (hz : P.cellsOf e = sz) (hp : 0 < sz) (hb : P.bytesOf e = bytes)
    (h : DataW.trod enc P w base (fun _ => true) held fuel t cs = some x) (hs : ∀ n ∈ x.1.weights P t, n ≤ reachBytes) :
    ∃ (A : Option Addr) (len cap : Nat) (us : List Value) (m : Nat), fuel = m + 1 ∧ cs = [.slice A len cap] ∧ Fits len cap bytes ∧ Lies w w.heap.size A us ∧ us.length = sz * len ∧
      ∀ i, i < len → ∃ y, DataW.trod enc P w base (fun _ => true) held m e ((us.drop (sz * i)).take sz) = some y ∧ ∀ n ∈ y.1.weights P e, n ≤ reachBytes := by
  rcases DataW.trod_slice ht h with ⟨rfl, rfl⟩ | ⟨a, len, cap, elems, rest, m, rfl, rfl, rfl, _, hl, hc, hle, hel, hsp, _⟩
  · cases fuel with
    | zero => simp [DataW.trod] at h
    | succ m => exact ⟨none, 0, 0, [], m, rfl, rfl, ⟨Nat.le_refl _, by omega, by omega⟩, .inl rfl, by simp, fun i hi => by omega⟩
  · obtain ⟨hr, _⟩ := hsp rfl
    rw [hz] at hel
    have hw : (elems.length + rest.length) * P.bytesOf e ≤ reachBytes := hs _ (by simp [DataW.weights, ht])
    have hfit : Fits len cap bytes := by
      rw [hb, hle, hr, show len + (cap - len) = cap by omega] at hw
      have hw2 : cap * bytes ≤ 140737488351232 := by simpa [reachBytes] using hw
      exact ⟨hl, Nat.le_trans (Nat.mul_le_mul_right _ hl) hw2, by unfold maxLen at hc; omega⟩
    have hcell : ∀ i, i < len → ∃ ci y, w.cells? base (a.add (i * sz)) sz = some ci ∧ DataW.trod enc P w base (fun _ => true) held m e ci = some y ∧ elems[i]? = some y := fun i hi => by
      have h1 := hel i hi
      have h2 : elems[i]? = some (elems[i]'(by omega)) := List.getElem?_eq_getElem (by omega)
      rw [h2] at h1
      cases hci : w.cells? base (a.add (i * sz)) sz with
      | none => rw [hci] at h1; cases h1
      | some ci => rw [hci] at h1; exact ⟨ci, _, rfl, h1, h2⟩
    obtain ⟨us, hus⟩ : ∃ us : List Value, us = (List.range (sz * len)).map fun j => (w.cell? (a.add j)).getD default := ⟨_, rfl⟩
    have hlen : us.length = sz * len := by rw [hus]; simp
    have hat : ∀ i q, i < len → q < sz → ∃ v, w.cell? (a.add (i * sz + q)) = some v ∧ us[sz * i + q]? = some v := fun i q hi hq => by
      obtain ⟨ci, y, h1, _, _⟩ := hcell i hi
      obtain ⟨_, h2, h3⟩ := World.cells?_some h1
      have h4 := h3 q hq
      rw [List.getElem?_eq_getElem (by omega)] at h4
      have h5 := addr_add_add h4
      refine ⟨_, h5, ?_⟩
      have hlt : sz * i + q < sz * len := by
        have := Nat.mul_le_mul_left sz (show i + 1 ≤ len by omega)
        rw [Nat.mul_add, Nat.mul_one] at this; omega
      rw [hus, List.getElem?_map, List.getElem?_range hlt, Option.map_some, Nat.mul_comm sz i, h5]; rfl
    refine ⟨some a, len, cap, us, m, rfl, rfl, hfit, lies_of_cells fun j v hv => ?_, hlen, fun i hi => ?_⟩
    · have hj : j < sz * len := by rw [← hlen]; exact (List.getElem?_eq_some_iff.1 hv).1
      obtain ⟨v', h1, h2⟩ := hat (j / sz) (j % sz) (Nat.div_lt_of_lt_mul hj) (Nat.mod_lt _ hp)
      rw [Nat.div_add_mod, hv] at h2
      rw [Nat.mul_comm, Nat.div_add_mod] at h1
      rw [h1, ← h2]
    · obtain ⟨ci, y, h1, h2, h3⟩ := hcell i hi
      obtain ⟨_, h4, h5⟩ := World.cells?_some h1
      have hlt : sz * i + sz ≤ sz * len := by
        have := Nat.mul_le_mul_left sz (show i + 1 ≤ len by omega)
        rwa [Nat.mul_add, Nat.mul_one] at this
      have he : (us.drop (sz * i)).take sz = ci := by
        apply List.ext_getElem?
        intro q
        rw [List.getElem?_take]
        by_cases hq : q < sz
        · rw [if_pos hq, List.getElem?_drop]
          obtain ⟨v, h6, h7⟩ := hat i q hi hq
          rw [h7, ← h5 q hq]
          have h8 := h5 q hq
          rw [List.getElem?_eq_getElem (by omega)] at h8
          have h9 := addr_add_add h8
          rw [h8, ← h9, h6]
        · rw [if_neg hq, List.getElem?_eq_none (by omega)]
      rw [he]
      refine ⟨y, h2, fun n hn => hs n ?_⟩
      have hy : y.1 ∈ elems.map (·.1) := List.mem_map.2 ⟨y, List.mem_of_getElem? h3, rfl⟩
      simp only [DataW.weights, ht, List.mem_cons, List.mem_append]
      refine .inr (.inl ?_)
      clear hs
      generalize elems.map (·.1) = l at hy
      induction l with
      | nil => cases hy
      | cons d r ih =>
        rw [DataW.weightsAll, List.mem_append]
        rcases List.mem_cons.1 hy with rfl | hy
        · exact .inl hn
        · exact .inr (ih hy)

theorem slice_nil {A : Option Addr} {len cap : Nat} (ht : P.underlying t = some (.slice e)) (h : DataW.trod enc P w base (fun _ => true) held fuel t [.slice A len cap] = some x) : A = none → cap = 0 := by
  intro hA
  rcases DataW.trod_slice ht h with ⟨h1, _⟩ | ⟨a, len', cap', elems, rest, m, _, h1, _⟩
  · simp at h1; exact h1.2.2
  · simp at h1; rw [hA] at h1; cases h1.1
/-- A slice of integers. -/
theorem ints_open {bytes : Nat} {k : IntKind} (ht : P.underlying t = some (.slice e)) (he : P.underlying e = some (.int k)) (hz : P.cellsOf e = 1) (hb : P.bytesOf e = bytes)
    (h : DataW.trod enc P w base (fun _ => true) held fuel t cs = some x) (hs : ∀ n ∈ x.1.weights P t, n ≤ reachBytes) :
    ∃ (A : Option Addr) (cap : Nat) (zs : List Int), cs = [.slice A zs.length cap] ∧ Fits zs.length cap bytes ∧ Lies w w.heap.size A (zs.map (Value.int k)) ∧ (∀ n ∈ zs, (Lit.int k n).wf = true) ∧ (A = none → cap = 0) := by
  obtain ⟨A, len, cap, us, m, rfl, rfl, hf, hl, hlen, hel⟩ := slice_open ht hz (by omega) hb h hs
  have key : ∃ zs : List Int, us = zs.map (Value.int k) ∧ ∀ n ∈ zs, (Lit.int k n).wf = true := by
    have h1 : ∀ v ∈ us, ∃ n, v = Value.int k n ∧ (Lit.int k n).wf = true := fun v hv => by
      obtain ⟨i, hi, rfl⟩ := List.mem_iff_getElem.1 hv
      obtain ⟨y, hy, _⟩ := hel i (by omega)
      obtain ⟨n, h2, _, h3⟩ := DataW.trod_int he hy
      rw [Nat.one_mul, List.drop_eq_getElem_cons hi, List.take_succ_cons, List.take_zero] at h2
      exact ⟨n, (List.cons.inj h2).1, h3⟩
    clear hel hlen hl hs h
    induction us with
    | nil => exact ⟨[], rfl, by simp⟩
    | cons v r ih =>
      obtain ⟨zs, rfl, h2⟩ := ih (fun v hv => h1 v (List.mem_cons_of_mem _ hv))
      obtain ⟨n, rfl, h3⟩ := h1 v List.mem_cons_self
      exact ⟨n :: zs, rfl, fun q hq => (List.mem_cons.1 hq).elim (fun e => e ▸ h3) (h2 q)⟩
  obtain ⟨zs, rfl, hwf⟩ := key
  have hn : zs.length = len := by simpa using hlen
  subst hn
  exact ⟨A, cap, zs, rfl, hf, hl, hwf, slice_nil ht h⟩
end
theorem nats_of {k : IntKind} {zs : List Int} {top : Nat} (hb : ∀ n, (Lit.int k n).wf = true → 0 ≤ n ∧ n < top) (h : ∀ n ∈ zs, (Lit.int k n).wf = true) : ∃ ns : List Nat, zs = ns.map (fun n : Nat => (n : Int)) ∧ ∀ n ∈ ns, n < top := by
  induction zs with
  | nil => exact ⟨[], rfl, by simp⟩
  | cons z r ih =>
    obtain ⟨ns, rfl, h2⟩ := ih (fun n hn => h n (List.mem_cons_of_mem _ hn))
    have := hb z (h z List.mem_cons_self)
    exact ⟨z.toNat :: ns, by simp; omega, fun q hq => (List.mem_cons.1 hq).elim (fun e => by omega) (h2 q)⟩
theorem bd64 (n : Int) (h : (Lit.int .i64 n).wf = true) : -9223372036854775808 ≤ n ∧ n ≤ 9223372036854775807 := bounds_i64 h
theorem bdu64 (n : Int) (h : (Lit.int .u64 n).wf = true) : ∃ m : Nat, n = (m : Int) ∧ m < 18446744073709551616 := by
  have := bounds_u64 h; exact ⟨n.toNat, by omega, by omega⟩
theorem isCels_of {w : World} {B : Nat} : ∀ (len : Nat) (us : List Value), us.length = 7 * len → (∀ i, i < len → ∃ c, IsCel w B c ((us.drop (7 * i)).take 7)) → ∃ cs : List Cel, cs.length = len ∧ IsCels w B cs us
  | 0, us, h, _ => ⟨[], rfl, by rw [IsCels]; exact List.eq_nil_of_length_eq_zero (by omega)⟩
  | n + 1, us, h, hc => by
    obtain ⟨c, h0⟩ := hc 0 (by omega)
    obtain ⟨cs, h1, h2⟩ := isCels_of n (us.drop 7) (by simp; omega) (fun i hi => by
      obtain ⟨c, h3⟩ := hc (i + 1) (by omega)
      exact ⟨c, by rw [List.drop_drop]; rwa [Nat.mul_add, Nat.mul_one, Nat.add_comm] at h3⟩)
    exact ⟨c :: cs, by simp [h1], by rw [IsCels]; exact ⟨us.take 7, us.drop 7, (List.take_append_drop 7 us).symm, by simpa using h0, h2⟩⟩
theorem isArrs_of {w : World} {B : Nat} : ∀ (len : Nat) (us : List Value), us.length = 3 * len → (∀ i, i < len → ∃ c, IsArr w B c ((us.drop (3 * i)).take 3)) → ∃ cs : List Arr, cs.length = len ∧ IsArrs w B cs us
  | 0, us, h, _ => ⟨[], rfl, by rw [IsArrs]; exact List.eq_nil_of_length_eq_zero (by omega)⟩
  | n + 1, us, h, hc => by
    obtain ⟨c, h0⟩ := hc 0 (by omega)
    obtain ⟨cs, h1, h2⟩ := isArrs_of n (us.drop 3) (by simp; omega) (fun i hi => by
      obtain ⟨c, h3⟩ := hc (i + 1) (by omega)
      exact ⟨c, by rw [List.drop_drop]; rwa [Nat.mul_add, Nat.mul_one, Nat.add_comm] at h3⟩)
    exact ⟨c :: cs, by simp [h1], by rw [IsArrs]; exact ⟨us.take 3, us.drop 3, (List.take_append_drop 3 us).symm, by simpa using h0, h2⟩⟩
theorem isRecs_of {w : World} {B : Nat} : ∀ (len : Nat) (us : List Value), us.length = 8 * len → (∀ i, i < len → ∃ c, IsRec w B c ((us.drop (8 * i)).take 8)) → ∃ cs : List Rec, cs.length = len ∧ IsRecs w B cs us
  | 0, us, h, _ => ⟨[], rfl, by rw [IsRecs]; exact List.eq_nil_of_length_eq_zero (by omega)⟩
  | n + 1, us, h, hc => by
    obtain ⟨c, h0⟩ := hc 0 (by omega)
    obtain ⟨cs, h1, h2⟩ := isRecs_of n (us.drop 8) (by simp; omega) (fun i hi => by
      obtain ⟨c, h3⟩ := hc (i + 1) (by omega)
      exact ⟨c, by rw [List.drop_drop]; rwa [Nat.mul_add, Nat.mul_one, Nat.add_comm] at h3⟩)
    exact ⟨c :: cs, by simp [h1], by rw [IsRecs]; exact ⟨us.take 8, us.drop 8, (List.take_append_drop 8 us).symm, by simpa using h0, h2⟩⟩
end Go.Proofs.Ytfiobbhicicchaa
