/-
  Texts of this proof, joined (by wip/bin/bundle.py): OwnQ, RegTail, PortMath, Ints2.
-/
import Derived.Test.YtfiefglagknclaaGreatDoorM5
import Derived.Laws.AppendOwn
import Derived.Maps.AppendAt
import Derived.Below
/-
  append onto a slice that the call owns, with a property of every cell of its row, the spare ones too: what holds of the old cells, of the new ones and of the zero holds of all (the library's run_append_own_at says nothing of the spare cells).
  So a slice of other cells (numbers' limbs) never lies in such a row, and stands when the row grows.
-/
namespace Go

/-- v owns the n elements xs, and every cell of its row is as q says. -/
def World.ownsQ (w : World) (q : Value → Prop) (base : Nat) (e : TypeId) (size : Nat) (v : Value) (n : Nat) (xs : List Value) : Prop :=
  xs.length = n * size ∧
  ((v = .slice none 0 0 ∧ n = 0) ∨
   ∃ g cap cur, v = .slice (some ⟨g, 0, none⟩) n cap ∧ base ≤ g ∧ w.heap[g]? = some (.cells cur e (0, 0)) ∧ n ≤ cap ∧ cap ≤ maxLen ∧ cur.size = cap * size ∧ cur.toList.take (n * size) = xs ∧ ∀ u ∈ cur.toList, q u)

section
variable {w : World} {q : Value → Prop} {base : Nat} {e : TypeId} {size : Nat} {v : Value} {n : Nat} {xs : List Value}
theorem World.ownsQ.own (h : w.ownsQ q base e size v n xs) : w.ownsRow base e size v n xs := by
  refine ⟨h.1, ?_⟩
  rcases h.2 with hn | ⟨g, cap, cur, hv, hb, hg, h1, h2, h3, h4, _⟩
  · exact .inl hn
  · exact .inr ⟨g, cap, cur, hv, hb, hg, h1, h2, h3, h4⟩
theorem World.ownsQ_nil (w : World) (q : Value → Prop) (base : Nat) (e : TypeId) (size : Nat) : w.ownsQ q base e size (.slice none 0 0) 0 [] := ⟨by simp, .inl ⟨rfl, rfl⟩⟩
theorem World.ownsQ.kept {w' : World} {row : Option Nat} (h : w.ownsQ q base e size v n xs) (hg : w.grownBy w' row) (hne : v.ownBlock = none ∨ v.ownBlock ≠ row) : w'.ownsQ q base e size v n xs := by
  refine ⟨h.1, ?_⟩
  rcases h.2 with hn | ⟨g, cap, cur, rfl, hb, hgg, rest⟩
  · exact .inl hn
  · refine .inr ⟨g, cap, cur, rfl, hb, ?_, rest⟩
    rw [hg.block g (Array.getElem?_eq_some_iff.1 hgg).1 (by simpa [Value.ownBlock] using hne)]
    exact hgg
theorem World.ownsQ.mono {base' : Nat} (h : w.ownsQ q base e size v n xs) (hb : base' ≤ base) : w.ownsQ q base' e size v n xs := by
  refine ⟨h.1, ?_⟩
  rcases h.2 with hn | ⟨g, cap, cur, hv, h1, rest⟩
  · exact .inl hn
  · exact .inr ⟨g, cap, cur, hv, by omega, rest⟩
theorem World.ownsRow.mono_ {base' : Nat} (h : w.ownsRow base e size v n xs) (hb : base' ≤ base) : w.ownsRow base' e size v n xs := by
  refine ⟨h.1, ?_⟩
  rcases h.2 with hn | ⟨g, cap, cur, hv, h1, rest⟩
  · exact .inl hn
  · exact .inr ⟨g, cap, cur, hv, by omega, rest⟩
/-- No cell of another kind lies in the row. -/
theorem World.ownsQ.apart (h : w.ownsQ q base e size v n xs) {a : Addr} {u : Value} (hc : w.cell? a = some u) (hu : ¬ q u) (hr : a.spot = none := by rfl) : v.ownBlock ≠ some a.block := by
  rcases h.2 with ⟨rfl, _⟩ | ⟨g, cap, cur, rfl, hb, hg, h1, h2, h3, h4, hq⟩
  · simp [Value.ownBlock]
  · intro he
    simp only [Value.ownBlock] at he
    injection he with he
    obtain ⟨b, off, r⟩ := a
    simp only at he hr
    subst he hr
    rw [cell_of_row w _ off cur e (0, 0) hg] at hc
    exact hu (hq u (Array.mem_toList_iff.2 (Array.mem_of_getElem? hc)))
end

section
variable {P : Program} (w : World)
theorem mem_zeroCells {z : Array Value} {n : Nat} {u : Value} (h : u ∈ (Builtin.zeroCells z n).toList) : u ∈ z.toList := by
  unfold Builtin.zeroCells at h
  simp only [Array.toList_map, Array.toList_range, List.mem_map, List.mem_range] at h
  obtain ⟨i, hi, rfl⟩ := h
  have hz : 0 < z.size := by
    rcases Nat.eq_zero_or_pos z.size with h0 | h0
    · rw [h0] at hi; simp at hi
    · exact h0
  have hlt : i % z.size < z.size := Nat.mod_lt _ hz
  rw [getElem!_pos z _ hlt]
  simp
theorem run_append_ownQ (q : Value → Prop) (base : Nat) (t ty e : TypeId) (i : TypeInfo) (z : Value) (size bytes : Nat) (ht : P.underlying t = some (.slice e)) (hi : P.info? e = some i) (hz : i.zero = some z)
    (hsize : i.size = size) (hby : i.bytes = bytes) (hzs : z.cells.size = size) (hsz : 0 < size) (hzq : ∀ u ∈ z.cells.toList, q u)
    (v : Value) (n : Nat) (xs : List Value) (hown : w.ownsQ q base e size v n xs)
    (a : Addr) (m c : Nat) (news : List Value) (hl : news.length = m * size) (hnews : ∀ j u, news[j]? = some u → w.cell? (a.add j) = some u) (h1 : ∀ u ∈ news, u.oneCell' = true) (hq : ∀ u ∈ news, q u)
    (h63 : n + m ≤ maxLen) (hbytes : (n + m) * bytes ≤ 140737488355328) (hbase : base ≤ w.heap.size) :
    ∃ v' w', (Builtin.append_ #[t, t] ty #[v, .slice (some a) m c]).run P w = .ok v' w' ∧ w'.ownsQ q base e size v' (n + m) (xs ++ news) ∧ w.grownBy w' v.ownBlock ∧
      (v' = .slice none 0 0 ↔ v = .slice none 0 0 ∧ m = 0) ∧ (v'.ownBlock = v.ownBlock ∨ v'.ownBlock = some w.heap.size) := by
  subst hsize
  subst hby
  have hsmall : n + m ≤ 9223372036854775807 := by simp only [maxLen] at h63; omega
  have hlen : (xs ++ news).length = (n + m) * i.size := by rw [List.length_append, hown.1, hl, Nat.add_mul]
  have grown : (∀ u ∈ xs, q u) → ∀ (old : Nat), old < n + m → ∀ (row : Option Nat),
      (w.drew.alloc (.cells (xs.toArray ++ news.toArray ++ Builtin.zeroCells z.cells (grownCap w (n + m) old e - (n + m))) e)).ownsQ q base e i.size
        (.slice (some ⟨w.heap.size, 0, none⟩) (n + m) (grownCap w (n + m) old e)) (n + m) (xs ++ news) ∧
      w.grownBy (w.drew.alloc (.cells (xs.toArray ++ news.toArray ++ Builtin.zeroCells z.cells (grownCap w (n + m) old e - (n + m))) e)) row := by
    intro hxq old ho row
    have hge := grownCap_ge w (n + m) old e
    have hcm : grownCap w (n + m) old e ≤ maxLen := grownCap_le_maxLen w (n + m) old e h63
    refine ⟨⟨hlen, .inr ⟨w.heap.size, _, _, rfl, hbase, heap_alloc_new w.drew _, hge, hcm, ?_, ?_, ?_⟩⟩, ⟨rfl, rfl, rfl, by simp, fun k hk _ => RowKit.Below.heap_alloc w.drew _ k hk⟩⟩
    · simp only [Array.size_append, List.size_toArray, size_zeroCells, hzs, hown.1, hl, ← Nat.add_mul]
      congr 1
      omega
    · simp only [Array.toList_append, List.append_assoc]
      rw [← List.append_assoc, ← hlen]
      exact List.take_left
    · intro u hu
      simp only [Array.toList_append, List.mem_append] at hu
      rcases hu with (hu | hu) | hu
      · exact hxq u hu
      · exact hq u hu
      · exact hzq u (mem_zeroCells hu)
  rcases hown.2 with ⟨rfl, rfl⟩ | ⟨g, cap, cur, rfl, hbg, hg, hnc, hcm, hcs, htake, hcq⟩
  · have hx : xs = [] := List.eq_nil_of_length_eq_zero (by simpa using hown.1)
    subst hx
    by_cases hm : m = 0
    · subst hm
      have hn : news = [] := List.eq_nil_of_length_eq_zero (by simpa using hl)
      subst hn
      refine ⟨.slice none 0 0, w, ?_, World.ownsQ_nil w q base e i.size, ⟨rfl, rfl, rfl, Nat.le_refl _, fun _ _ _ => rfl⟩, by simp, Or.inl rfl⟩
      simp [Builtin.append_, run_underlying ht, sizeOf, typeInfo, hi, Builtin.lenOf, Builtin.firstCells, loadCells, loadCellsFrom]
    · have hr := run_append_nil (P := P) w t ty e i z ht hi hz a m c news hl hnews (by omega) (by omega) (by have hb := hbytes; simp only [Nat.zero_add] at hb; omega)
      have hgr := grown (by simp) 0 (by omega) (Value.ownBlock (.slice none 0 0))
      simp only [Nat.zero_add, List.nil_append, Array.empty_append] at hgr ⊢
      exact ⟨_, _, hr, hgr.1, hgr.2, by simp [hm], Or.inr rfl⟩
  · by_cases hroom : n + m ≤ cap
    · have hfit : n * i.size + news.length ≤ cur.size := by rw [hl, hcs, ← Nat.add_mul]; exact Nat.mul_le_mul_right _ hroom
      have hr := run_append_room (P := P) w t ty e i ht hi g n cap cur hg a m c news hl hnews h1 hroom hfit
      refine ⟨_, _, hr, ⟨hlen, .inr ⟨g, cap, _, rfl, hbg, setRow_heap w g cur _ e _ hg, hroom, hcm, ?_, ?_, ?_⟩⟩, ⟨rfl, rfl, rfl, by simp, fun k _ hk => setRow_other w g k _ (fun e => hk (by simp [Value.ownBlock, e]))⟩, by simp, Or.inl rfl⟩
      · simp only [List.size_toArray, List.length_append, List.length_take, List.length_drop, Array.length_toList]
        omega
      · rw [htake, ← hlen]
        exact List.take_left
      · intro u hu
        simp only [List.mem_append] at hu
        rcases hu with (hu | hu) | hu
        · exact hcq u (List.mem_of_mem_take hu)
        · exact hq u hu
        · exact hcq u (List.mem_of_mem_drop hu)
    · have holds : ∀ j u, xs[j]? = some u → w.cell? ((⟨g, 0, none⟩ : Addr).add j) = some u := hown.own.cells (g := g) rfl
      have hr := run_append_grow (P := P) w t ty e i z ht hi hz ⟨g, 0, none⟩ n cap xs hown.1 holds a m c news hl hnews (by omega) (by omega) (growslice_fits (by omega) hbytes)
      have hgr := grown (fun u hu => hcq u (List.mem_of_mem_take (by rw [htake]; exact hu))) cap (by omega) (Value.ownBlock (.slice (some ⟨g, 0, none⟩) n cap))
      exact ⟨_, _, hr, hgr.1, hgr.2, by simp, Or.inr rfl⟩

theorem wp_append_ownQ {o : Oper} {a : Act} {K : Act → World → Prop} {Q : Exit → Act → World → Prop} (s x : Operand) (t : TypeId)
    (ho : o.op = .call { callee := .builtin .append, args := #[s, x], argTypes := #[t, t] })
    (q : Value → Prop) (base : Nat) (e : TypeId) (i : TypeInfo) (z : Value) (size bytes : Nat) (ht : P.underlying t = some (.slice e)) (hi : P.info? e = some i) (hz : i.zero = some z)
    (hsize : i.size = size) (hby : i.bytes = bytes) (hzs : z.cells.size = size) (hsz : 0 < size) (hzq : ∀ u ∈ z.cells.toList, q u)
    (v : Value) (n : Nat) (xs : List Value) (hs : a.eval s = v) (hown : w.ownsQ q base e size v n xs)
    (ad : Addr) (m c : Nat) (news : List Value) (hx : a.eval x = .slice (some ad) m c) (hl : news.length = m * size) (hnews : ∀ j u, news[j]? = some u → w.cell? (ad.add j) = some u) (h1 : ∀ u ∈ news, u.oneCell' = true) (hq : ∀ u ∈ news, q u)
    (h63 : n + m ≤ maxLen) (hbytes : (n + m) * bytes ≤ 140737488355328) (hbase : base ≤ w.heap.size)
    (h : ∀ v' w', w'.ownsQ q base e size v' (n + m) (xs ++ news) → w.grownBy w' v.ownBlock → (v' = .slice none 0 0 ↔ v = .slice none 0 0 ∧ m = 0) → (v'.ownBlock = v.ownBlock ∨ v'.ownBlock = some w.heap.size) → K (a.put o.dst v') w') : o.wp P a w K Q := by
  obtain ⟨v', w', hr, h2, h3, h4, h5⟩ := run_append_ownQ (P := P) w q base t o.type e i z size bytes ht hi hz hsize hby hzs hsz hzq v n xs hown ad m c news hl hnews h1 hq h63 hbytes hbase
  unfold Oper.wp execOp
  simp only [ho, resolve, invoke, builtin, Sem.run_bind, Sem.run_pure, Result.andThen_ok, List.map_toArray, List.map_cons, List.map_nil, hs, hx, hr]
  exact h v' w' h2 h3 h4 h5
theorem wpList_append_ownQ {ops : Array Oper} {rest : List Oper} {o : Oper} {a : Act} {Q : Exit → Act → World → Prop} (hgd : o.guard = none) (s x : Operand) (t : TypeId)
    (ho : o.op = .call { callee := .builtin .append, args := #[s, x], argTypes := #[t, t] })
    (q : Value → Prop) (base : Nat) (e : TypeId) (i : TypeInfo) (z : Value) (size bytes : Nat) (ht : P.underlying t = some (.slice e)) (hi : P.info? e = some i) (hz : i.zero = some z)
    (hsize : i.size = size) (hby : i.bytes = bytes) (hzs : z.cells.size = size) (hsz : 0 < size) (hzq : ∀ u ∈ z.cells.toList, q u)
    (v : Value) (n : Nat) (xs : List Value) (hs : a.eval s = v) (hown : w.ownsQ q base e size v n xs)
    (ad : Addr) (m c : Nat) (news : List Value) (hx : a.eval x = .slice (some ad) m c) (hl : news.length = m * size) (hnews : ∀ j u, news[j]? = some u → w.cell? (ad.add j) = some u) (h1 : ∀ u ∈ news, u.oneCell' = true) (hq : ∀ u ∈ news, q u)
    (h63 : n + m ≤ maxLen) (hbytes : (n + m) * bytes ≤ 140737488355328) (hbase : base ≤ w.heap.size)
    (h : ∀ v' w', w'.ownsQ q base e size v' (n + m) (xs ++ news) → w.grownBy w' v.ownBlock → (v' = .slice none 0 0 ↔ v = .slice none 0 0 ∧ m = 0) → (v'.ownBlock = v.ownBlock ∨ v'.ownBlock = some w.heap.size) → wpList P ops Q rest (a.put o.dst v') w') : wpList P ops Q (o :: rest) a w :=
  wpList_plain hgd fun _ hK => wp_append_ownQ w s x t ho q base e i z size bytes ht hi hz hsize hby hzs hsz hzq v n xs hs hown ad m c news hx hl hnews h1 hq h63 hbytes hbase fun v' w' h2 h3 h4 h5 => hK _ _ (h v' w' h2 h3 h4 h5)
end
end Go

/-
  As XRegLast, for a region whose last operations stand in a row (each waits for all before it): those ahead by predicates, the row walked in its order.
-/
namespace Go.Proofs.YtfiefglagknclaaGreatDoor
open Go.RowKit
set_option linter.unusedVariables false

section
variable {P : Program} {ops : Array Oper} {Q : Exit → Act → World → Prop} {md : Region.Mode}
/-- The row of operations from a place on, so many. -/
def Tail (P : Program) (ops : Array Oper) (Q : Exit → Act → World → Prop) : Nat → Nat → Act → World → Prop
  | 0, _, a, w => Q .normal a w
  | n + 1, k, a, w => wpOp P ops Q k (fun a' w' => Tail P ops Q n (k + 1) a' w') a w
/-- An operation that waits for another one, of itself or by way of others. -/
def depT (md : Region.Mode) (ops : Array Oper) : Nat → Nat → Nat → Bool
  | 0, i, j => depB md ops i j
  | n + 1, i, j => depB md ops i j || (List.range ops.size).any fun m => depB md ops i m && depT md ops n m j
theorem depT_listed {l : Array Bool} (hcl : ∀ i j, l[i]? = some true → depB md ops i j = true → l[j]? = some true) : ∀ n i j, (∀ m, depB md ops i m = true → l[m]? = some true) → depT md ops n i j = true → l[j]? = some true
  | 0, i, j, hi, h => hi j h
  | n + 1, i, j, hi, h => by
    unfold depT at h
    rw [Bool.or_eq_true] at h
    rcases h with h | h
    · exact hi j h
    · rw [List.any_eq_true] at h
      obtain ⟨m, _, hm⟩ := h
      rw [Bool.and_eq_true] at hm
      exact depT_listed hcl n m j (fun m' h' => hcl m m' (hi m hm.1) h') hm.2
theorem closed_set {l : Array Bool} {i : Nat} (hcl : ∀ i j, l[i]? = some true → depB md ops i j = true → l[j]? = some true) (hi : ∀ m, depB md ops i m = true → l[m]? = some true) : ∀ i' j, (l.setIfInBounds i true)[i']? = some true → depB md ops i' j = true → (l.setIfInBounds i true)[j]? = some true := by
  intro i' j h hd
  have hj : l[j]? = some true := by
    by_cases e : i = i'
    · subst e; exact hi j hd
    · rw [Array.getElem?_setIfInBounds_ne e] at h; exact hcl i' j h hd
  by_cases e : i = j
  · subst e
    rw [Array.getElem?_setIfInBounds_self_of_lt (by
      rcases Nat.lt_or_ge i l.size with h | h
      · exact h
      · rw [Array.getElem?_eq_none h] at hj; cases hj)]
  · rw [Array.getElem?_setIfInBounds_ne e]; exact hj
theorem all_listed {l : Array Bool} (hl : l.size = ops.size) (hr : Region.ready md ops l = []) (hops : ∀ i, i < ops.size → ∀ j, depB md ops i j = true → j < i) : ∀ m i, i < m → i < ops.size → l[i]? = some true := by
  intro m
  induction m with
  | zero => intro i h; omega
  | succ m ih =>
    intro i hi his
    by_cases e : i < m
    · exact ih i e his
    · have hie : i = m := by omega
      subst hie
      cases h : l[i]? with
      | none => rw [Array.getElem?_eq_none_iff] at h; omega
      | some b =>
        cases b
        · exfalso
          have : i ∈ Region.ready md ops l := by
            simp only [Region.ready, List.mem_filter, List.mem_range, Bool.and_eq_true, Bool.not_eq_true']
            refine ⟨his, by rw [Array.getD_eq_getD_getElem?, h]; rfl, ?_⟩
            rw [Array.getElem?_eq_getElem his]
            simp only [Option.map_some, Option.getD_some, Array.all_eq_true_iff_forall_mem]
            intro e he
            cases hbe : Region.binds md e
            · rfl
            · have hd : depB md ops i e.on = true := by
                unfold depB
                rw [Array.getElem?_eq_getElem his]
                simp only [List.any_eq_true, Bool.and_eq_true, beq_iff_eq]
                exact ⟨e, by simpa using he, rfl, hbe⟩
              have hlt := hops i his e.on hd
              rw [Array.getD_eq_getD_getElem?, ih e.on hlt (by omega)]
              simp
          rw [hr] at this; cases this
        · rfl
theorem wpAny_tail (frame : (Nat → Value) → Act) (w0 : World) (R : Nat → World → Value → Prop) (s : Nat) (hs : s < ops.size)
    (hR : ∀ i w w' v, R i w v → Below w.heap.size w w' → R i w' v)
    (step : ∀ i xs w, i < s → Below w0.heap.size w0 w → (∀ j, depB md ops i j = true → R j w (xs j)) → wpOp P ops Q i (Yields frame R xs i w) (frame xs) w)
    (tail : ∀ xs w, Below w0.heap.size w0 w → (∀ i, i < s → R i w (xs i)) → Tail P ops Q (ops.size - s) s (frame xs) w)
    (hops : ∀ i, i < ops.size → ∀ j, depB md ops i j = true → j < i) (N : Nat) (hrow : ∀ i, s ≤ i → i < ops.size → ∀ j, j < i → depT md ops N i j = true)
    (xs0 : Nat → Value) (w1 : World) (hw1 : Below w0.heap.size w0 w1) : wpAny P md ops Q ops.size (Array.replicate ops.size false) (frame xs0) w1 := by
  refine wpAny_inv (fun l a w => l.size = ops.size ∧ (∀ i j, l[i]? = some true → depB md ops i j = true → l[j]? = some true) ∧ (((∀ i, s ≤ i → i < ops.size → l[i]? = some false) ∧ Below w0.heap.size w0 w ∧ ∃ xs, a = frame xs ∧ ∀ i, i < s → l[i]? = some true → R i w (xs i)) ∨ (∃ k, s < k ∧ k ≤ ops.size ∧ (∀ i, i < k → l[i]? = some true) ∧ (∀ i, k ≤ i → i < ops.size → l[i]? = some false) ∧ Tail P ops Q (ops.size - k) k a w))) ?_ ?_ ops.size _ _ _ (by simp)
    ⟨by simp, (fun i j h => by
      rw [Array.getElem?_replicate] at h
      split at h <;> simp at h), .inl ⟨fun i _ hi => by simp [hi], hw1, xs0, rfl, fun i hi h => by simp [show i < ops.size by omega] at h⟩⟩
  · rintro l a w ⟨hl, hcl, hc⟩ i hi
    obtain ⟨h1, h2, h3⟩ := ready_mem hi
    have hli : l[i]? = some false := by
      rw [Array.getD_eq_getD_getElem?] at h2
      rw [Array.getElem?_eq_getElem (by omega)] at h2 ⊢
      simp at h2; rw [h2]
    have hdi : ∀ m, depB md ops i m = true → l[m]? = some true := fun m hm => getD_true (depB_listed h3 hm)
    have go : ∀ k, i = k → s ≤ k → (∀ j, j < k → l[j]? = some true) → (∀ j, k ≤ j → j < ops.size → l[j]? = some false) → Tail P ops Q (ops.size - k) k a w →
        wpOp P ops Q i (fun a' w' => (l.setIfInBounds i true).size = ops.size ∧ (∀ i' j, (l.setIfInBounds i true)[i']? = some true → depB md ops i' j = true → (l.setIfInBounds i true)[j]? = some true) ∧ (((∀ j, s ≤ j → j < ops.size → (l.setIfInBounds i true)[j]? = some false) ∧ Below w0.heap.size w0 w' ∧ ∃ xs, a' = frame xs ∧ ∀ j, j < s → (l.setIfInBounds i true)[j]? = some true → R j w' (xs j)) ∨ (∃ k, s < k ∧ k ≤ ops.size ∧ (∀ j, j < k → (l.setIfInBounds i true)[j]? = some true) ∧ (∀ j, k ≤ j → j < ops.size → (l.setIfInBounds i true)[j]? = some false) ∧ Tail P ops Q (ops.size - k) k a' w'))) a w := by
      rintro k rfl hk ht hf hT
      obtain ⟨n, hn⟩ : ∃ n, ops.size - i = n + 1 := ⟨ops.size - i - 1, by omega⟩
      rw [hn] at hT
      refine wpOp_mono ?_ hT
      intro a' w' hq
      refine ⟨by simpa using hl, closed_set hcl hdi, .inr ⟨i + 1, by omega, by omega, fun j hj => ?_, fun j hj hjs => ?_, by rw [show ops.size - (i + 1) = n by omega]; exact hq⟩⟩
      · by_cases e : i = j
        · subst e; rw [Array.getElem?_setIfInBounds_self_of_lt (by omega)]
        · rw [Array.getElem?_setIfInBounds_ne e]; exact ht j (by omega)
      · rw [Array.getElem?_setIfInBounds_ne (by omega)]; exact hf j (by omega) hjs
    rcases hc with ⟨hlate, hb, xs, rfl, hx⟩ | ⟨k, hk, hks, ht, hf, hT⟩
    · by_cases e : i < s
      · refine wpOp_mono ?_ (step i xs w e hb (fun j hj => hx j (by have := hops i h1 j hj; omega) (getD_true (depB_listed h3 hj))))
        rintro a' w' ⟨v, rfl, hv, hb'⟩
        refine ⟨by simpa using hl, closed_set hcl hdi, .inl ⟨fun j hj hjs => by rw [Array.getElem?_setIfInBounds_ne (by omega)]; exact hlate j hj hjs, hb.trans (hb'.mono hb.size), upd xs i v, rfl, fun j hj hlj => ?_⟩⟩
        by_cases e' : j = i
        · subst e'; simp only [upd, if_true]; exact hv
        · simp only [upd, if_neg e']
          rw [Array.getElem?_setIfInBounds_ne (fun h => e' h.symm)] at hlj
          exact hR j w w' _ (hx j hj hlj) hb'
      · have hall : ∀ j, j < i → l[j]? = some true := fun j hj => depT_listed hcl N i j hdi (hrow i (by omega) h1 j hj)
        have his : i = s := by
          rcases Nat.lt_or_ge s i with h | h
          · have h4 := hall s h
            rw [hlate s (Nat.le_refl _) hs] at h4
            cases h4
          · omega
        exact go s his (Nat.le_refl _) (by rw [← his]; exact hall) hlate (tail xs w hb (fun j hj => hx j hj (hall j (by omega))))
    · have hik : k ≤ i := by
        rcases Nat.lt_or_ge i k with h | h
        · rw [ht i h] at hli; cases hli
        · exact h
      have his : i = k := by
        rcases Nat.lt_or_ge k i with h | h
        · have h4 := depT_listed hcl N i k hdi (hrow i (by omega) h1 k h)
          rw [hf k (Nat.le_refl _) (by omega)] at h4
          cases h4
        · omega
      exact go k his (by omega) ht hf hT
  · rintro l a w ⟨hl, hcl, hc⟩ hr
    have hall := all_listed hl hr hops
    rcases hc with ⟨hlate, _⟩ | ⟨k, hk, hks, ht, hf, hT⟩
    · have h4 := hall (s + 1) s (by omega) hs
      rw [hlate s (Nat.le_refl _) hs] at h4
      cases h4
    · rcases Nat.lt_or_ge k ops.size with h | h
      · have h4 := hall (k + 1) k (by omega) h
        rw [hf k (Nat.le_refl _) h] at h4
        cases h4
      · rw [show ops.size - k = 0 by omega] at hT
        exact hT
theorem wp_region_tail (frame : (Nat → Value) → Act) (w0 : World) (R : Nat → World → Value → Prop) (s : Nat) {id : Nat} {a : Act} {w : World} (hm : P.follows .mixedOrders = true) (hs : s < ops.size)
    (hR : ∀ i w w' v, R i w v → Below w.heap.size w w' → R i w' v)
    (hops : ops.toList.zipIdx.all (fun p => p.1.after.all fun e => decide (e.on < p.2)) = true)
    (N : Nat) (hrow : (List.range ops.size).all (fun i => decide (i < s) || (List.range i).all (fun j => depT .any ops N i j)) = true)
    (xs0 : Nat → Value) (ha : a = frame xs0) (hw : Below w0.heap.size w0 w)
    (step : ∀ i xs w, i < s → Below w0.heap.size w0 w → (∀ j, depB .any ops i j = true → R j w (xs j)) → wpOp P ops Q i (Yields frame R xs i w) (frame xs) w)
    (tail : ∀ xs w, Below w0.heap.size w0 w → (∀ i, i < s → R i w (xs i)) → Tail P ops Q (ops.size - s) s (frame xs) w) : (Code.region id ops true).wp P Q a w := by
  subst ha
  refine wp_region_any hm (wpAny_tail frame w0 R s hs hR step tail ?_ N ?_ xs0 _ ?_)
  · intro i hi j hj
    unfold depB at hj
    rw [Array.getElem?_eq_getElem hi] at hj
    simp only [List.any_eq_true, Bool.and_eq_true, beq_iff_eq] at hj
    obtain ⟨e, he, rfl, _⟩ := hj
    rw [List.all_eq_true] at hops
    have h := hops (ops[i], i) (by
      rw [List.mem_zipIdx_iff_getElem?]
      simp)
    rw [Array.all_eq_true_iff_forall_mem] at h
    simpa using h e (by simpa using he)
  · intro i hsi hi j hj
    rw [List.all_eq_true] at hrow
    have h := hrow i (by simpa using hi)
    rw [Bool.or_eq_true, decide_eq_true_iff] at h
    rcases h with h | h
    · omega
    · rw [List.all_eq_true] at h
      exact h j (by simpa using hj)
  · exact ⟨hw.os, hw.tape, hw.output, hw.size, hw.block⟩
end
end Go.Proofs.YtfiefglagknclaaGreatDoor

/-
  Tokens, plain: what is read behind a quad; the bytes of two characters that are told by rune.
-/
namespace Tk
open Go
theorem words_no {l : List Int} {i : Nat} (h : word (l.getD i (-1)) = false) : words l i = 0 := by
  unfold words
  rcases Nat.lt_or_ge i l.length with hi | hi
  · rw [getD_in hi] at h
    rw [List.drop_eq_getElem_cons hi, List.takeWhile_cons, h]
    rfl
  · rw [List.drop_of_length_le hi]; rfl
theorem words_yes {l : List Int} {i : Nat} (h : word (l.getD i (-1)) = true) : words l i = 1 + words l (i + 1) := by
  unfold words
  rcases Nat.lt_or_ge i l.length with hi | hi
  · rw [getD_in hi] at h
    rw [List.drop_eq_getElem_cons hi, List.takeWhile_cons, h]
    simp; omega
  · rw [getD_out hi] at h; cases h
theorem word_digit {c : Int} (h : digit c = true) : word c = true := by unfold word; rw [h]; rfl
theorem word_letter {c : Int} (h : (cls c == 2) = true) : word c = true := by unfold word; rw [h]; simp
theorem digit_letter {c : Int} (h : digit c = true) : (cls c == 2) = false := by
  unfold digit at h
  simp at h
  unfold cls
  rw [if_neg (by omega), if_neg (by omega), if_pos (by omega)]
  rfl
theorem port_head {l : List Int} {i : Nat} (hc : l.getD i (-1) = 9109 ∨ l.getD i (-1) = 9054) : read l i =
    (let n := words l (i + 1)
     let d := l.getD (i + 1) (-1)
     if n = 1 ∧ 48 ≤ d ∧ d ≤ 55 then (⟨if l.getD i (-1) = 9054 then 5 else 4, Rt.none_, [], [], d - 48, i⟩, 2, 0)
     else if l.getD i (-1) = 9109 ∧ n = 2 ∧ d = 68 ∧ l.getD (i + 2) (-1) = 67 then (⟨6, Rt.none_, [], [], 0, i⟩, 3, 0)
     else if l.getD i (-1) = 9109 ∧ n = 2 ∧ d = 85 ∧ l.getD (i + 2) (-1) = 80 then (⟨6, Rt.none_, [], [], 1, i⟩, 3, 0)
     else (none_, 0, 1)) := by
  unfold read
  generalize l.getD i (-1) = c at *
  simp only
  have h3 : ¬ cls c = 3 := by rcases hc with rfl | rfl <;> decide
  have h2 : ¬ cls c = 2 := by rcases hc with rfl | rfl <;> decide
  have h39 : ¬ c = 39 := by omega
  rw [if_neg h3, if_neg h2, if_neg h39, if_pos hc]
/-- A digit behind the quad. -/
theorem port_digit {l : List Int} {i : Nat} (hc : l.getD i (-1) = 9109 ∨ l.getD i (-1) = 9054) (hd : digit (l.getD (i + 1) (-1)) = true) (h7 : l.getD (i + 1) (-1) ≤ 55) : read l i =
    if word (l.getD (i + 2) (-1)) = true then (none_, 0, 1) else (⟨if l.getD i (-1) = 9054 then 5 else 4, Rt.none_, [], [], l.getD (i + 1) (-1) - 48, i⟩, 2, 0) := by
  rw [port_head hc]
  simp only
  rw [words_yes (word_digit hd)]
  have h48 : 48 ≤ l.getD (i + 1) (-1) := by unfold digit at hd; rw [Bool.and_eq_true, decide_eq_true_eq, decide_eq_true_eq] at hd; exact hd.1
  by_cases hw : word (l.getD (i + 2) (-1)) = true
  · rw [if_pos hw, words_yes (i := i + 1 + 1) hw]
    rw [if_neg (by omega), if_neg (by omega), if_neg (by omega)]
  · rw [if_neg hw, words_no (i := i + 1 + 1) (by simpa using hw)]
    rw [if_pos ⟨rfl, h48, h7⟩]
theorem letter_range {x : Int} (h : (cls x == 2) = true) : 65 ≤ x ∧ x ≤ 122 := by
  have h : cls x = 2 := by simpa using h
  unfold cls at h
  split at h
  · cases h
  · split at h
    · omega
    · exfalso
      repeat' split at h
      all_goals (first | cases h | omega)
/-- Two letters behind the quad. -/
theorem port_two {l : List Int} {i : Nat} (hc : l.getD i (-1) = 9109) (hd : (cls (l.getD (i + 1) (-1)) == 2) = true) (hd2 : (cls (l.getD (i + 2) (-1)) == 2) = true) : read l i =
    if l.getD (i + 1) (-1) = 68 ∧ l.getD (i + 2) (-1) = 67 then (if word (l.getD (i + 3) (-1)) = true then (none_, 0, 1) else (⟨6, Rt.none_, [], [], 0, i⟩, 3, 0))
    else if l.getD (i + 1) (-1) = 85 ∧ l.getD (i + 2) (-1) = 80 then (if word (l.getD (i + 3) (-1)) = true then (none_, 0, 1) else (⟨6, Rt.none_, [], [], 1, i⟩, 3, 0))
    else (none_, 0, 1) := by
  rw [port_head (.inl hc)]
  simp only
  have hr := letter_range hd
  rw [words_yes (word_letter hd), words_yes (i := i + 1 + 1) (word_letter hd2), if_neg (by omega)]
  by_cases hw : word (l.getD (i + 3) (-1)) = true
  · rw [words_yes (i := i + 1 + 1 + 1) hw, if_neg (by omega), if_neg (by omega), if_pos hw]
    split <;> (try split) <;> rfl
  · rw [words_no (i := i + 1 + 1 + 1) (by simpa using hw), if_neg hw]
    by_cases h1 : l.getD (i + 1) (-1) = 68 ∧ l.getD (i + 2) (-1) = 67
    · rw [if_pos ⟨hc, rfl, h1⟩, if_pos h1]
    · rw [if_neg (fun h => h1 h.2.2), if_neg h1]
      by_cases h2 : l.getD (i + 1) (-1) = 85 ∧ l.getD (i + 2) (-1) = 80
      · rw [if_pos ⟨hc, rfl, h2⟩, if_pos h2]
        rw [if_neg hw]
      · rw [if_neg (fun h => h2 h.2.2), if_neg h2]
/-- Neither. -/
theorem port_none {l : List Int} {i : Nat} (hc : l.getD i (-1) = 9109 ∨ l.getD i (-1) = 9054) (h1 : ¬ (digit (l.getD (i + 1) (-1)) = true ∧ l.getD (i + 1) (-1) ≤ 55)) (h2 : ¬ (l.getD i (-1) = 9109 ∧ (cls (l.getD (i + 1) (-1)) == 2) = true ∧ (cls (l.getD (i + 2) (-1)) == 2) = true)) : read l i = (none_, 0, 1) := by
  rw [port_head hc]
  simp only
  rw [if_neg (by
    rintro ⟨_, h48, h55⟩
    exact h1 ⟨by unfold digit; rw [Bool.and_eq_true, decide_eq_true_eq, decide_eq_true_eq]; omega, h55⟩)]
  rw [if_neg (by
    rintro ⟨hq, _, h68, h67⟩
    exact h2 ⟨hq, by rw [h68]; decide, by rw [h67]; decide⟩)]
  rw [if_neg (by
    rintro ⟨hq, _, h68, h67⟩
    exact h2 ⟨hq, by rw [h68]; decide, by rw [h67]; decide⟩)]
end Tk

/-
  Small numbers of a row, as natural ones.
-/
namespace Go.Proofs.YtfiefglagknclaaGreatDoor
open Go.RowKit
theorem u8_nat {a : Int} (h : (Lit.int .u8 a).wf = true) : ∃ n : Nat, a = (n : Int) ∧ n < 256 := by
  have := bounds_u8 h
  exact ⟨a.toNat, by omega, by omega⟩
theorem u32_nat {a : Int} (h : (Lit.int .u32 a).wf = true) : ∃ n : Nat, a = (n : Int) ∧ n < 4294967296 := by
  have := bounds_u32 h
  exact ⟨a.toNat, by omega, by omega⟩
end Go.Proofs.YtfiefglagknclaaGreatDoor
