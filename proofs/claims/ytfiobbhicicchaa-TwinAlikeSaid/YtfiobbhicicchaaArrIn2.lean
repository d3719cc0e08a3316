/-
  Arrays, records and configurations that came in, opened: what the row reads of an argument, as a tree in memory.
-/
import Derived.Test.YtfiobbhicicchaaArrIn
namespace Go.Proofs.Ytfiobbhicicchaa
open Go.ChangeShapes Go.WideShapes Go.ChangeAt Go.RowKit Ar
set_option linter.unusedVariables false

section
variable {H : Type} {enc : TypeId × Value → H} {P : Program} {w : World} {base : Nat} {held : Bool} {fuel : Nat} {t e : TypeId} {cs : List Value} {x : DataW H × List MemPlace}
theorem field_open {fs : Array Field} (ht : P.underlying t = some (.struct fs)) (h : DataW.trod enc P w base (fun _ => true) held fuel t cs = some x) (hs : ∀ n ∈ x.1.weights P t, n ≤ reachBytes) :
    ∃ m, fuel = m + 1 ∧ cs.length = P.cellsOf t ∧ ∀ (i : Nat) (ty : TypeId) (off : Nat), (fs[i]?).map (fun f => (f.type, f.offset)) = some (ty, off) → ∃ y, DataW.trod enc P w base (fun _ => true) held m ty ((cs.drop off).take (P.cellsOf ty)) = some y ∧ ∀ n ∈ y.1.weights P ty, n ≤ reachBytes := by
  obtain ⟨xs, m, rfl, rfl, hl, hx, hf⟩ := DataW.trod_struct ht h
  refine ⟨m, rfl, hl, fun i ty off hm => ?_⟩
  obtain ⟨f, hi, hm'⟩ := Option.map_eq_some_iff.1 hm
  obtain ⟨rfl, rfl⟩ := Prod.mk.inj hm'
  have h1 := hf i f hi
  have hlt : i < xs.length := by rw [hx]; exact (Array.getElem?_eq_some_iff.1 hi).1
  rw [List.getElem?_eq_getElem hlt] at h1
  refine ⟨_, h1, fun n hn => hs n ?_⟩
  simp only [DataW.weights, ht]
  exact DataW.weights_mem_each (j := i) (t := f.type) (d := xs[i].1) (by rw [List.getElem?_map, Array.getElem?_toList, hi]; rfl) (by rw [List.getElem?_map, List.getElem?_eq_getElem hlt]; rfl) n hn
theorem weights_mem_all : ∀ {ds : List (DataW H)} {d : DataW H}, d ∈ ds → ∀ n ∈ d.weights P e, n ∈ DataW.weightsAll P e ds
  | [], _, h, _, _ => by cases h
  | d' :: r, d, h, n, hn => by
    rw [DataW.weightsAll, List.mem_append]
    rcases List.mem_cons.1 h with rfl | h
    · exact .inl hn
    · exact .inr (weights_mem_all h n hn)
theorem array_open {k : Nat} (ht : P.underlying t = some (.array k e)) (h : DataW.trod enc P w base (fun _ => true) held fuel t cs = some x) (hs : ∀ n ∈ x.1.weights P t, n ≤ reachBytes) :
    ∃ m, fuel = m + 1 ∧ cs.length = P.cellsOf t ∧ ∀ (i : Nat), i < k → ∃ y, DataW.trod enc P w base (fun _ => true) held m e ((cs.drop (i * P.cellsOf e)).take (P.cellsOf e)) = some y ∧ ∀ n ∈ y.1.weights P e, n ≤ reachBytes := by
  obtain ⟨xs, m, rfl, rfl, hl, hx, hf⟩ := DataW.trod_array ht h
  refine ⟨m, rfl, hl, fun i hi => ?_⟩
  have h1 := hf i hi
  have hlt : i < xs.length := by omega
  rw [List.getElem?_eq_getElem hlt] at h1
  refine ⟨_, h1, fun n hn => hs n ?_⟩
  simp only [DataW.weights, ht]
  exact weights_mem_all (List.mem_map.2 ⟨_, List.getElem_mem hlt, rfl⟩) n hn
end

theorem cArr : Try.prog.cellsOf 42 = 3 := by kernel_rfl
theorem cCel : Try.prog.cellsOf 60 = 7 := by kernel_rfl
theorem cNum : Try.prog.cellsOf 58 = 3 := by kernel_rfl
theorem cInt : Try.prog.cellsOf 3 = 1 := by kernel_rfl
theorem cU64 : Try.prog.cellsOf 22 = 1 := by kernel_rfl
theorem cU32 : Try.prog.cellsOf 74 = 1 := by kernel_rfl
theorem cInts : Try.prog.cellsOf 26 = 1 := by kernel_rfl
theorem cU32s : Try.prog.cellsOf 56 = 1 := by kernel_rfl
theorem cCels : Try.prog.cellsOf 40 = 1 := by kernel_rfl
theorem cArrs : Try.prog.cellsOf 24 = 1 := by kernel_rfl
theorem cBool : Try.prog.cellsOf 4 = 1 := by kernel_rfl
theorem bCel : Try.prog.bytesOf 60 = 104 := by kernel_rfl
theorem bArr : Try.prog.bytesOf 42 = 56 := by kernel_rfl
theorem bInt : Try.prog.bytesOf 3 = 8 := by kernel_rfl
theorem bU32 : Try.prog.bytesOf 74 = 4 := by kernel_rfl

section
variable {H : Type} {enc : TypeId × Value → H} {w : World} {base : Nat} {held : Bool}
def ArrRead (enc : TypeId × Value → H) (w : World) (base : Nat) (held : Bool) (fuel : Nat) : Prop :=
  ∀ cs x, DataW.trod enc Try.prog w base (fun _ => true) held fuel 42 cs = some x → (∀ n ∈ x.1.weights Try.prog 42, n ≤ reachBytes) → ∃ a, IsArr w w.heap.size a cs
def CelRead (enc : TypeId × Value → H) (w : World) (base : Nat) (held : Bool) (fuel : Nat) : Prop :=
  ∀ cs x, DataW.trod enc Try.prog w base (fun _ => true) held fuel 60 cs = some x → (∀ n ∈ x.1.weights Try.prog 60, n ≤ reachBytes) → ∃ a, IsCel w w.heap.size a cs

theorem list3 {cs : List Value} (h : cs.length = 3) : ∃ a b c, cs = [a, b, c] := by
  match cs, h with
  | [a, b, c], _ => exact ⟨a, b, c, rfl⟩
theorem list7 {cs : List Value} (h : cs.length = 7) : ∃ a b c d e f g, cs = [a, b, c, d, e, f, g] := by
  match cs, h with
  | [a, b, c, d, e, f, g], _ => exact ⟨a, b, c, d, e, f, g, rfl⟩
theorem list8 {cs : List Value} (h : cs.length = 8) : ∃ a b c d e f g k, cs = [a, b, c, d, e, f, g, k] := by
  match cs, h with
  | [a, b, c, d, e, f, g, k], _ => exact ⟨a, b, c, d, e, f, g, k, rfl⟩
theorem i64s_of {zs : List Int} (h : ∀ n ∈ zs, (Lit.int .i64 n).wf = true) : Wf64 zs := fun n hn => bounds_i64 (h n hn)
theorem u32_lt (n : Int) (h : (Lit.int .u32 n).wf = true) : 0 ≤ n ∧ n < ((4294967296 : Nat) : Int) := by have := bounds_u32 h; omega

theorem both_read (n : Nat) : ArrRead enc w base held n ∧ CelRead enc w base held n := by
  induction n using Nat.strongRecOn with
  | _ n ih =>
    constructor
    · intro cs x h hs
      obtain ⟨m, rfl, hlen, hf⟩ := field_open Try.underlying42 h hs
      rw [cArr] at hlen
      obtain ⟨v0, v1, v2, rfl⟩ := list3 hlen
      obtain ⟨y0, h0, _⟩ := hf 0 22 0 rfl
      obtain ⟨y1, h1, s1⟩ := hf 1 26 1 rfl
      obtain ⟨y2, h2, s2⟩ := hf 2 40 2 rfl
      rw [cU64] at h0
      rw [cInts] at h1
      rw [cCels] at h2
      obtain ⟨S, e0, _, w0⟩ := DataW.trod_int Try.underlying22 h0
      obtain ⟨A, c, zs, e1, f1, l1, w1, _⟩ := ints_open Try.underlying26 Try.underlying3 cInt bInt h1 s1
      obtain ⟨A', len, c', us, m', rfl, e2, f2, l2, hl2, hel⟩ := slice_open Try.underlying40 cCel (by omega) bCel h2 s2
      obtain ⟨k, rfl, hk⟩ := bdu64 S w0
      obtain ⟨cells, hcl, hcs⟩ := isCels_of len us hl2 (fun i hi => by
        obtain ⟨y, hy, sy⟩ := hel i hi
        exact (ih m' (by omega)).2 _ _ hy sy)
      subst hcl
      simp at e0 e1 e2
      subst e0 e1 e2
      exact ⟨.mk k zs cells, by rw [IsArr]; exact ⟨A, c, A', c', us, rfl, hk, f1, f2, i64s_of w1, l1, l2, hcs⟩⟩
    · intro cs x h hs
      obtain ⟨m, rfl, hlen, hf⟩ := field_open Try.underlying60 h hs
      rw [cCel] at hlen
      obtain ⟨v0, v1, v2, v3, v4, v5, v6, rfl⟩ := list7 hlen
      obtain ⟨y0, h0, _⟩ := hf 0 22 0 rfl
      obtain ⟨y1, h1, _⟩ := hf 1 3 1 rfl
      obtain ⟨y2, h2, s2⟩ := hf 2 58 2 rfl
      obtain ⟨y3, h3, _⟩ := hf 3 3 5 rfl
      obtain ⟨y4, h4, s4⟩ := hf 4 24 6 rfl
      rw [cU64] at h0
      rw [cInt] at h1 h3
      rw [cNum] at h2
      rw [cArrs] at h4
      obtain ⟨L, e0, _, w0⟩ := DataW.trod_int Try.underlying22 h0
      obtain ⟨kind, e1, _, w1⟩ := DataW.trod_int Try.underlying3 h1
      obtain ⟨ch, e3, _, w3⟩ := DataW.trod_int Try.underlying3 h3
      obtain ⟨A3, len, c3, us, m', rfl, e4, f4, l4, hl4, hel⟩ := slice_open Try.underlying24 cArr (by omega) bArr h4 s4
      obtain ⟨m2, _, hlen2, hf2⟩ := field_open Try.underlying58 h2 s2
      obtain ⟨z0, g0, _⟩ := hf2 0 4 0 rfl
      obtain ⟨z1, g1, q1⟩ := hf2 1 56 1 rfl
      obtain ⟨z2, g2, q2⟩ := hf2 2 56 2 rfl
      rw [cBool] at g0
      rw [cU32s] at g1 g2
      obtain ⟨neg, d0, _⟩ := DataW.trod_bool Try.underlying4 g0
      obtain ⟨A1, c1, t1, d1, p1, l1, x1, nl1⟩ := ints_open Try.underlying56 Try.underlying74 cU32 bU32 g1 q1
      obtain ⟨A2, c2, t2, d2, p2, l2, x2, nl2⟩ := ints_open Try.underlying56 Try.underlying74 cU32 bU32 g2 q2
      obtain ⟨k, rfl, hk⟩ := bdu64 L w0
      obtain ⟨ins, hcl, hcs⟩ := isArrs_of len us hl4 (fun i hi => by
        obtain ⟨y, hy, sy⟩ := hel i hi
        exact (ih m' (by omega)).1 _ _ hy sy)
      obtain ⟨n1, rfl, o1⟩ := nats_of u32_lt x1
      obtain ⟨n2, rfl, o2⟩ := nats_of u32_lt x2
      subst hcl
      simp at e0 e1 e3 e4 d0 d1 d2
      subst e0 e1 e3 e4 d0 d1 d2
      have hwf : Wf64 [kind, ch] := by
        intro n hn
        simp at hn
        rcases hn with rfl | rfl
        · exact bounds_i64 w1
        · exact bounds_i64 w3
      exact ⟨.mk k kind neg n1 n2 ch ins, by rw [IsCel]; exact ⟨A1, c1, A2, c2, A3, c3, us, by simp, hk, by simpa using p1, by simpa using p2, f4, hwf, o1, o2, by simpa [U32, Function.comp_def] using l1, by simpa [U32, Function.comp_def] using l2, l4, hcs, nl1, nl2⟩⟩

theorem cRec : Try.prog.cellsOf 44 = 8 := by kernel_rfl
theorem cCfg : Try.prog.cellsOf 29 = 36 := by kernel_rfl
theorem bRec : Try.prog.bytesOf 44 = 96 := by kernel_rfl
theorem cErr : Try.prog.cellsOf 39 = 1 := by kernel_rfl
theorem cA8 : Try.prog.cellsOf 23 = 8 := by kernel_rfl
theorem cI8 : Try.prog.cellsOf 25 = 8 := by kernel_rfl
theorem cD8 : Try.prog.cellsOf 27 = 8 := by kernel_rfl

theorem rec_read {fuel : Nat} {cs : List Value} {x : DataW H × List MemPlace} (h : DataW.trod enc Try.prog w base (fun _ => true) held fuel 44 cs = some x) (hs : ∀ n ∈ x.1.weights Try.prog 44, n ≤ reachBytes) : ∃ r, IsRec w w.heap.size r cs := by
  obtain ⟨m, rfl, hlen, hf⟩ := field_open Try.underlying44 h hs
  rw [cRec] at hlen
  obtain ⟨v0, v1, v2, v3, v4, v5, v6, v7, rfl⟩ := list8 hlen
  obtain ⟨y0, h0, _⟩ := hf 0 3 0 rfl
  obtain ⟨y1, h1, _⟩ := hf 1 3 1 rfl
  obtain ⟨y2, h2, _⟩ := hf 2 22 2 rfl
  obtain ⟨y3, h3, _⟩ := hf 3 22 3 rfl
  obtain ⟨y4, h4, _⟩ := hf 4 39 4 rfl
  obtain ⟨y5, h5, s5⟩ := hf 5 42 5 rfl
  rw [cInt] at h0 h1
  rw [cU64] at h2 h3
  rw [cErr] at h4
  rw [cArr] at h5
  obtain ⟨kind, e0, _, w0⟩ := DataW.trod_int Try.underlying3 h0
  obtain ⟨port, e1, _, w1⟩ := DataW.trod_int Try.underlying3 h1
  obtain ⟨frm, e2, _, w2⟩ := DataW.trod_int Try.underlying22 h2
  obtain ⟨to, e3, _, w3⟩ := DataW.trod_int Try.underlying22 h3
  obtain ⟨cls, e4, _, w4⟩ := DataW.trod_int Try.underlying39 h4
  obtain ⟨a, ha⟩ := (both_read m).1 _ _ h5 s5
  obtain ⟨f, rfl, hf'⟩ := bdu64 frm w2
  obtain ⟨t, rfl, ht'⟩ := bdu64 to w3
  obtain ⟨S', X, n, c, X', n', c', e5⟩ := ha.form
  have ha' : IsArr w w.heap.size a [v5, v6, v7] := by simpa using ha
  simp at e0 e1 e2 e3 e4 e5
  obtain ⟨rfl, rfl, rfl⟩ := e5
  subst e0 e1 e2 e3 e4
  refine ⟨⟨kind, port, f, t, cls, a⟩, S', X, n, c, X', n', c', rfl, ha', hf', ht', ?_⟩
  intro z hz
  simp at hz
  rcases hz with rfl | rfl | rfl
  · exact bounds_i64 w0
  · exact bounds_i64 w1
  · exact bounds_i64 w4
theorem recs_read {fuel : Nat} {cs : List Value} {x : DataW H × List MemPlace} (h : DataW.trod enc Try.prog w base (fun _ => true) held fuel 36 cs = some x) (hs : ∀ n ∈ x.1.weights Try.prog 36, n ≤ reachBytes) :
    ∃ (A : Option Addr) (cp : Nat) (rs : List Rec) (us : List Value), cs = [.slice A rs.length cp] ∧ Fits rs.length cp 96 ∧ Lies w w.heap.size A us ∧ IsRecs w w.heap.size rs us := by
  obtain ⟨A, len, cp, us, m, rfl, rfl, hf, hl, hlen, hel⟩ := slice_open Try.underlying36 cRec (by omega) bRec h hs
  obtain ⟨rs, rfl, hrs⟩ := isRecs_of len us hlen (fun i hi => by
    obtain ⟨y, hy, sy⟩ := hel i hi
    exact rec_read hy sy)
  exact ⟨A, cp, rs, us, rfl, hf, hl, hrs⟩
theorem arrs_read {fuel : Nat} {cs : List Value} {x : DataW H × List MemPlace} (h : DataW.trod enc Try.prog w base (fun _ => true) held fuel 24 cs = some x) (hs : ∀ n ∈ x.1.weights Try.prog 24, n ≤ reachBytes) :
    ∃ (A : Option Addr) (cp : Nat) (rs : List Arr) (us : List Value), cs = [.slice A rs.length cp] ∧ Fits rs.length cp 56 ∧ Lies w w.heap.size A us ∧ IsArrs w w.heap.size rs us := by
  obtain ⟨A, len, cp, us, m, rfl, rfl, hf, hl, hlen, hel⟩ := slice_open Try.underlying24 cArr (by omega) bArr h hs
  obtain ⟨rs, rfl, hrs⟩ := isArrs_of len us hlen (fun i hi => by
    obtain ⟨y, hy, sy⟩ := hel i hi
    exact (both_read m).1 _ _ hy sy)
  exact ⟨A, cp, rs, us, rfl, hf, hl, hrs⟩
theorem take_one {cs : List Value} {k off : Nat} {v : Value} (h : (((cs.drop off).take 8).drop (k * 1)).take 1 = [v]) : cs[off + k]? = some v := by
  have := congrArg (fun l => l[0]?) h
  have h2 : k < 8 ∧ cs[off + k]? = some v := by simpa [List.getElem?_take, List.getElem?_drop] using this
  exact h2.2
theorem pick8 {α : Type} (d : α) {p : Nat → α → Prop} (h : ∀ k, k < 8 → ∃ a, p k a) : ∃ f : Nat → α, ∀ k, k < 8 → p k (f k) :=
  ⟨fun k => if hk : k < 8 then (h k hk).choose else d, fun k hk => by simp only [dif_pos hk]; exact (h k hk).choose_spec⟩
theorem get_drop1 {cs : List Value} {off : Nat} {v : Value} (h : (cs.drop off).take 1 = [v]) : cs[off]? = some v := by
  have := congrArg (fun l => l[0]?) h
  simpa [List.getElem?_take, List.getElem?_drop] using this
theorem cfg_read {fuel : Nat} {cs : List Value} {x : DataW H × List MemPlace} (h : DataW.trod enc Try.prog w base (fun _ => true) held fuel 29 cs = some x) (hs : ∀ n ∈ x.1.weights Try.prog 29, n ≤ reachBytes) : ∃ c, IsCfg w w.heap.size c cs.toArray := by
  obtain ⟨m, rfl, hlen, hf⟩ := field_open Try.underlying29 h hs
  rw [cCfg] at hlen
  obtain ⟨y0, h0, s0⟩ := hf 0 23 0 rfl
  obtain ⟨y1, h1, s1⟩ := hf 1 25 8 rfl
  obtain ⟨y2, h2, s2⟩ := hf 2 23 16 rfl
  obtain ⟨y3, h3, s3⟩ := hf 3 27 24 rfl
  obtain ⟨y4, h4, _⟩ := hf 4 22 32 rfl
  obtain ⟨y5, h5, _⟩ := hf 5 3 33 rfl
  obtain ⟨y6, h6, _⟩ := hf 6 3 34 rfl
  obtain ⟨y7, h7, _⟩ := hf 7 3 35 rfl
  rw [cA8] at h0 h2
  rw [cI8] at h1
  rw [cD8] at h3
  rw [cU64] at h4
  rw [cInt] at h5 h6 h7
  obtain ⟨auth, e4, _, w4⟩ := DataW.trod_int Try.underlying22 h4
  obtain ⟨fu, e5, _, w5⟩ := DataW.trod_int Try.underlying3 h5
  obtain ⟨qu, e6, _, w6⟩ := DataW.trod_int Try.underlying3 h6
  obtain ⟨de, e7, _, w7⟩ := DataW.trod_int Try.underlying3 h7
  obtain ⟨au, rfl, hau⟩ := bdu64 auth w4
  obtain ⟨m0, _, _, g0⟩ := array_open Try.underlying23 h0 s0
  obtain ⟨m1, _, _, g1⟩ := array_open Try.underlying25 h1 s1
  obtain ⟨m2, _, _, g2⟩ := array_open Try.underlying23 h2 s2
  obtain ⟨m3, _, _, g3⟩ := array_open Try.underlying27 h3 s3
  rw [cU64] at g0 g2
  rw [cArrs] at g1
  rw [cInts] at g3
  obtain ⟨cl, hcl⟩ := pick8 (p := fun k (n : Nat) => cs[0 + k]? = some (.int .u64 (n : Int)) ∧ n < 18446744073709551616) 0 (fun k hk => by
    obtain ⟨y, hy, _⟩ := g0 k hk
    obtain ⟨n, e, _, wn⟩ := DataW.trod_int Try.underlying22 hy
    obtain ⟨q, rfl, hq⟩ := bdu64 n wn
    exact ⟨q, take_one e, hq⟩)
  obtain ⟨la, hla⟩ := pick8 (p := fun k (n : Nat) => cs[16 + k]? = some (.int .u64 (n : Int)) ∧ n < 18446744073709551616) 0 (fun k hk => by
    obtain ⟨y, hy, _⟩ := g2 k hk
    obtain ⟨n, e, _, wn⟩ := DataW.trod_int Try.underlying22 hy
    obtain ⟨q, rfl, hq⟩ := bdu64 n wn
    exact ⟨q, take_one e, hq⟩)
  obtain ⟨ins, hins⟩ := pick8 (p := fun k (rs : List Arr) => ∃ A cp us, cs[8 + k]? = some (.slice A rs.length cp) ∧ Fits rs.length cp 56 ∧ Lies w w.heap.size A us ∧ IsArrs w w.heap.size rs us) [] (fun k hk => by
    obtain ⟨y, hy, sy⟩ := g1 k hk
    obtain ⟨A, cp, rs, us, e, q1, q2, q3⟩ := arrs_read hy sy
    exact ⟨rs, A, cp, us, take_one e, q1, q2, q3⟩)
  obtain ⟨dr, hdr⟩ := pick8 (p := fun k (zs : List Int) => ∃ A cp, cs[24 + k]? = some (.slice A zs.length cp) ∧ Fits zs.length cp 8 ∧ Wf64 zs ∧ Lies w w.heap.size A (I64 zs)) [] (fun k hk => by
    obtain ⟨y, hy, sy⟩ := g3 k hk
    obtain ⟨A, cp, zs, e, q1, q2, q3, _⟩ := ints_open Try.underlying26 Try.underlying3 cInt bInt hy sy
    exact ⟨zs, A, cp, take_one e, q1, i64s_of q3, q2⟩)
  refine ⟨⟨cl, la, ins, dr, au, fu, qu, de⟩, ?_⟩
  exact {
    size := by simpa using hlen
    clear := fun k hk => by have := hcl k hk; rw [Nat.zero_add] at this; exact ⟨by simpa using this.1, this.2⟩
    ins := fun k hk => by obtain ⟨A, cp, us, q1, q2⟩ := hins k hk; exact ⟨A, cp, us, by simpa using q1, q2⟩
    label := fun k hk => by have := hla k hk; exact ⟨by simpa using this.1, this.2⟩
    draws := fun k hk => by obtain ⟨A, cp, q1, q2⟩ := hdr k hk; exact ⟨A, cp, by simpa using q1, q2⟩
    auth := by simpa using get_drop1 e4
    authLt := hau
    fuel := by simpa using get_drop1 e5
    quota := by simpa using get_drop1 e6
    depth := by simpa using get_drop1 e7
    wf := by
      intro z hz
      simp at hz
      rcases hz with rfl | rfl | rfl
      · exact bounds_i64 w5
      · exact bounds_i64 w6
      · exact bounds_i64 w7 }
end
end Go.Proofs.Ytfiobbhicicchaa
