/-
  A map keyed by pointers to structs that lie in blocks of their own: a look-up of a key that is not there; a store of a new key.
-/
import Derived.Test.YtaaapjoopchgiaaDoorBlk
import Derived.LaidEqlPtr
import Derived.ChangeMaps5
import Derived.Maps.OwnOps
namespace Go.Proofs.YtaaapjoopchgiaaDoor
open Go.RowKit
set_option linter.unusedVariables false

/-- Block B is a map whose keys are pointers to the heads of the blocks ks. -/
def PMap (w : World) (B : Nat) (ks : List Nat) : Prop := ∃ es clock, w.heap[B]? = some (.map es clock) ∧ es.toList.map (·.key) = ks.map (fun b => Value.pointer (some ⟨b, 0, none⟩))
/-- A block of cells, none frozen. -/
def Whole (w : World) (b : Nat) : Prop := ∃ cs t, w.heap[b]? = some (.cells cs t (0, 0))

section
variable {P : Program} {w : World}
theorem equal_other {tp te : TypeId} {j : TypeInfo} {a b : Nat} (hp : P.underlying tp = some (.pointer te)) (hte : P.info? te = some j) (hsz : j.size ≠ 0) (hne : a ≠ b) (ha : Whole w a) (hb : Whole w b) :
    (Op.equal tp (.pointer (some ⟨a, 0, none⟩)) (.pointer (some ⟨b, 0, none⟩))).run P w = .ok false w := by
  obtain ⟨ca, ta, ha⟩ := ha
  obtain ⟨cb, tb, hb⟩ := hb
  have h : ∀ d : Nat, (Op.equalIn (d + 1) tp (.pointer (some ⟨a, 0, none⟩)) (.pointer (some ⟨b, 0, none⟩))).run P w = .ok false w := fun d => by
    simp [Op.equalIn, run_underlying hp, sizeOf, typeInfo, hte, hsz, run_sameAddr_other (a := ⟨a, 0, none⟩) (b := ⟨b, 0, none⟩) w (fun e => hne (by injection e)) ha hb]
  simp [Op.equal, Op.maxDepth, h 9999]
theorem findAsking_none {tp te : TypeId} {j : TypeInfo} {a : Nat} (hp : P.underlying tp = some (.pointer te)) (hte : P.info? te = some j) (hsz : j.size ≠ 0) (ha : Whole w a) :
    ∀ (es : List MapEntry) (ks : List Nat) (i : Nat), es.map (·.key) = ks.map (fun b => Value.pointer (some ⟨b, 0, none⟩)) → a ∉ ks → (∀ b ∈ ks, Whole w b) → (Instr.findAsking tp (.pointer (some ⟨a, 0, none⟩)) es i).run P w = .ok none w
  | [], _, i, _, _, _ => by simp [Instr.findAsking]
  | e :: es, [], i, h, _, _ => by simp at h
  | e :: es, k :: ks, i, h, hn, hw => by
    simp only [List.map_cons, List.cons.injEq] at h
    have h1 := equal_other hp hte hsz (fun e => hn (by rw [e]; exact List.mem_cons_self)) ha (hw k List.mem_cons_self)
    have h2 := findAsking_none hp hte hsz ha es ks (i + 1) h.2 (fun hh => hn (List.mem_cons_of_mem _ hh)) (fun b hb => hw b (List.mem_cons_of_mem _ hb))
    simp [Instr.findAsking, h.1, h1, h2]
theorem findKey_none {tp te : TypeId} {j : TypeInfo} {a : Nat} (hp : P.underlying tp = some (.pointer te)) (hte : P.info? te = some j) (hsz : j.size ≠ 0) (ha : Whole w a)
    (es : List MapEntry) (ks : List Nat) (h : es.map (·.key) = ks.map (fun b => Value.pointer (some ⟨b, 0, none⟩))) (hn : a ∉ ks) (hw : ∀ b ∈ ks, Whole w b) : (Instr.findKey tp (.pointer (some ⟨a, 0, none⟩)) es).run P w = .ok none w := by
  cases es with
  | nil => simp [Instr.findKey, run_underlying hp, Instr.findNow]
  | cons e es =>
    have := findAsking_none hp hte hsz ha (e :: es) ks 0 h hn hw
    simp [Instr.findKey, run_underlying hp, Instr.findNow, Instr.sameNow, this]
theorem checkKey_ptr {tp te : TypeId} (hp : P.underlying tp = some (.pointer te)) (e : Bool) (n : Nat) (p : Option Addr) : (Instr.checkKey e (n + 1) tp (.pointer p)).run P w = .ok () w := by
  unfold Instr.checkKey
  simp [run_underlying hp]
theorem lookup_none {T tp te E : TypeId} {j : TypeInfo} {a B : Nat} {ks : List Nat} (hT : P.underlying T = some (.map tp E)) (hp : P.underlying tp = some (.pointer te)) (hte : P.info? te = some j) (hsz : j.size ≠ 0) (hz : ∀ w, (zeroValue E).run P w = .ok (.int .i64 0) w)
    (hm : PMap w B ks) (ha : Whole w a) (hn : a ∉ ks) (hw : ∀ b ∈ ks, Whole w b) : (Instr.lookup T (.map (some B)) (.pointer (some ⟨a, 0, none⟩)) false).run P w = .ok (.int .i64 0) w := by
  obtain ⟨es, clock, hb, hk⟩ := hm
  have hf := findKey_none hp hte hsz ha es.toList ks hk hn hw
  have hc : (Instr.checkKey es.isEmpty 10000 tp (.pointer (some ⟨a, 0, none⟩))).run P w = .ok () w := checkKey_ptr hp _ 9999 _
  simp [Instr.lookup, run_underlying hT, MapKept.run_getObj_map hb, hc, hf, hz, Result.andThen]
theorem mapUpdate_new {T tp te E : TypeId} {j : TypeInfo} {a B : Nat} {ks : List Nat} (v : Value) (hT : P.underlying T = some (.map tp E)) (hp : P.underlying tp = some (.pointer te)) (hte : P.info? te = some j) (hsz : j.size ≠ 0)
    (hm : PMap w B ks) (ha : Whole w a) (hn : a ∉ ks) (hw : ∀ b ∈ ks, Whole w b) : ∃ w', (Instr.mapUpdate T (.map (some B)) (.pointer (some ⟨a, 0, none⟩)) v).run P w = .ok () w' ∧ PMap w' B (ks ++ [a]) ∧ w.grownBy w' (some B) := by
  obtain ⟨es, clock, hb, hk⟩ := hm
  have hf := findKey_none hp hte hsz ha es.toList ks hk hn hw
  refine ⟨Go.ChangeMaps.setBlock w B (.map (es.push { key := .pointer (some ⟨a, 0, none⟩), val := v, born := clock }) (clock + 1)), ?_, ⟨_, _, Go.ChangeMaps.heap_setBlock_same hb _, ?_⟩, ?_⟩
  · have hc : (Instr.checkKey false 10000 tp (.pointer (some ⟨a, 0, none⟩))).run P w = .ok () w := checkKey_ptr hp _ 9999 _
    simp [Instr.mapUpdate, run_underlying hT, MapKept.run_getObj_map hb, hc, hf, MapKept.run_setObj_map _ hb, Result.andThen, Go.ChangeMaps.setBlock]
  · simp [hk]
  · exact ⟨rfl, rfl, rfl, by simp [Go.ChangeMaps.setBlock], fun i _ hne => Go.ChangeMaps.heap_setBlock_other hb _ (fun e => hne (by rw [e]))⟩
end
end Go.Proofs.YtaaapjoopchgiaaDoor
