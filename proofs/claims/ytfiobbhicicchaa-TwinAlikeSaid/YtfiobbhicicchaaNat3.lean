/-
  What nat.Norm, nat.Add and nat.Sub compute: the digits of the number, of the sum, of the difference.
-/
import Derived.Test.YtfiobbhicicchaaNat2
import Derived.Test.YtfiobbhicicchaaBlk
import Derived.Test.YtfiobbhicicchaaNatBits
import Derived.Laws.CopyOwn
namespace Go.Proofs.Ytfiobbhicicchaa
open Go.RowKit
set_option maxHeartbeats 1000000
set_option linter.unusedVariables false

theorem u32_info : (Try.prog.info? 74).map (fun i => (i.zero, i.size, i.bytes)) = some (some (.int .u32 0), 1, 4) := by kernel_rfl
theorem u32_size : (Try.prog.info? 74).map (·.size) = some 1 := by kernel_rfl
theorem U_one (l : List Nat) : ∀ v ∈ U l, v.oneCell' = true := by
  intro v hv
  obtain ⟨n, _, rfl⟩ := List.mem_map.1 hv
  rfl
theorem U_take (l : List Nat) (n : Nat) : (U l).take n = U (l.take n) := List.map_take.symm
theorem Lies.digs {w : World} {B : Nat} {A : Option Addr} {l : List Nat} (h : Lies w B A (U l)) (ho : Nt.Ok l) : Lies w B A (U (Nt.digs (Nt.val l))) := by
  have := h.take (Nt.digs (Nt.val l)).length
  rw [U_take, Nt.take_digs ho] at this
  exact this
/-- The source of a copy: an address wherever there is a limb. -/
theorem Lies.src {w : World} {B : Nat} {A : Option Addr} {vs : List Value} (h : Lies w B A vs) (hp : 0 < vs.length) : ∃ ad, A = some ad ∧ ∀ (j : Nat) (v : Value), vs[j]? = some v → w.cell? (ad.add j) = some v := by
  rcases h with h | ⟨b, off, hA, _, hc⟩
  · subst h; simp at hp
  · refine ⟨⟨b, off, none⟩, hA, fun j v hv => ?_⟩
    have := hc j v hv
    unfold Addr.add
    split
    · rename_i e; subst e; simpa using this
    · exact this

/-- copy of limbs into the head of a block of the call's own. -/
theorem copy_limbs {w : World} {ops : Array Oper} {rest : List Oper} {o : Oper} {a : Act} {Q : Exit → Act → World → Prop} (hgd : o.guard = none) (d s : Operand)
    (ho : o.op = .call { callee := .builtin .copy, args := #[d, s], argTypes := #[56, 56] })
    (A : Option Addr) (dCap sCap g : Nat) (ds : List Nat) (hd : a.eval d = .slice (some ⟨g, 0, none⟩) ds.length dCap) (hs : a.eval s = .slice A ds.length sCap)
    (cur : List Value) (hg : Blk w g 74 cur) (hfit : ds.length ≤ cur.length) (B0 : Nat) (hsrc : Lies w B0 A (U ds)) (B : Nat) (w0 : World) (hb : Below B w0 w) (hBg : B ≤ g)
    (h : ∀ w', Blk w' g 74 (U ds ++ cur.drop ds.length) → Below B w0 w' → wpList Try.prog ops Q rest (a.put o.dst (goInt ds.length)) w') :
    wpList Try.prog ops Q (o :: rest) a w := by
  refine wpList_copy_splice hgd d s _ _ ho 74 Try.underlying56 u32_size _ _ _ _ _ _ hd hs g 0 cur 74 hg (U ds) (by simp [U]) (fun hp => ⟨rfl, hsrc.src hp⟩) (by simp [U]; omega) (U_one ds) B w0 hb hBg ?_
  intro w' hw' hb'
  rw [U_len]
  refine h w' ?_ hb'
  have := hw'.out
  unfold Blk
  rw [this]
  simp [splice, U_len]

/-! ### Add -/
end Go.Proofs.Ytfiobbhicicchaa
