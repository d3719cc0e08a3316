/-
  NARROWER THAN 'FOR EVERY INPUT', by the rows' own cells (each row's printed sentence says how): TwinAlike: loops · TwinGoes: loops · TwinApart: loops.
  DERIVED. THE GIVEN ROWS OF THIS SEAT. 3 by the template 'for every input the law returns true; each argument reads behind the call as it read before'; 0 by the template 'total and deterministic' (their statements: YtfiobbhicicchaaTotals.lean).
  GIVEN WITH THE SEED: the statements are not yours to turn. If you find one false, say at which input.
  Laid BY PROGRAM, IN A SANDBOX (cutbox-rows.mjs): the forced cells as the released guide's own fill.sh prints them over the translation f2e7671446b0ba59… (all of the seat's roots in one cut). By AI agents, Wed Nov 11 2026. No macro, syntax, notation, axiom, sorry.
-/
import Derived.Test.YtfiobbhicicchaaChecked
import GoSem.Claim
import GoSem.ClaimJoined
import GoSem.ClaimMapViews
import Derived.JoinedTies
import Derived.KernelRfl
namespace Go.Proofs.Ytfiobbhicicchaa
/- THE CELL 'sum', in the pinned program and in every row, IS THE sha256 OF THE DUMP (.gsa) THAT YtfiobbhicicchaaProg.lean LOADS. Nothing in Lean hashes anything: it is a label: what it is worth is what the hold of that sum in a sandbox is worth. -/
noncomputable def Try.pinned : Pinned := { name := "ytfiobbhicicchaa", sum := "f2e7671446b0ba597ae80984b7fe4545ecb242faf7f9ea9f155d51e6aee2aacc", checked := Try.checked }
namespace Rows
def none {H : Type} : Left H := { results := [], args := [] }

/-- 'scrimlaw34.TwinAlike': WHATEVER THE INPUT: true; the input reads as it did. -/
def twinAlikeSpec : ChangeSpec := { name := "twinAlike", fn := fun _ => fun
  | [d1, d2, d3] => { results := [.lit (.bool true)], args := [d1, d2, d3] }
  | _ => none }
def twinAlikeRow : OpenClaim := { program := "ytfiobbhicicchaa", sum := "f2e7671446b0ba597ae80984b7fe4545ecb242faf7f9ea9f155d51e6aee2aacc", func := "scrim/scrimlaw34.TwinAlike", spec := "twinAlike", unfollowed := true, recurses := true, loops := true, apart := false }
def TwinAlikeSaid : Prop := twinAlikeRow.holds Try.pinned (OpenSpec.ofChange twinAlikeSpec)

/-- ITS FALSE NEIGHBOUR: 'it returns false'. Refute it at one input. -/
def twinAlikeWrong : ChangeSpec := { name := "twinAlike", fn := fun _ => fun
  | [d1, d2, d3] => { results := [.lit (.bool false)], args := [d1, d2, d3] }
  | _ => none }
def TwinAlikeWrongFalsely : Prop := twinAlikeRow.holds Try.pinned (OpenSpec.ofChange twinAlikeWrong)

/-- 'scrimlaw34.TwinGoes': WHATEVER THE INPUT: true; the input reads as it did. -/
def twinGoesSpec : ChangeSpec := { name := "twinGoes", fn := fun _ => fun
  | [d1, d2, d3, d4] => { results := [.lit (.bool true)], args := [d1, d2, d3, d4] }
  | _ => none }
def twinGoesRow : OpenClaim := { program := "ytfiobbhicicchaa", sum := "f2e7671446b0ba597ae80984b7fe4545ecb242faf7f9ea9f155d51e6aee2aacc", func := "scrim/scrimlaw34.TwinGoes", spec := "twinGoes", unfollowed := true, recurses := true, loops := true, apart := false }
def TwinGoesSaid : Prop := twinGoesRow.holds Try.pinned (OpenSpec.ofChange twinGoesSpec)

/-- ITS FALSE NEIGHBOUR: 'it returns false'. Refute it at one input. -/
def twinGoesWrong : ChangeSpec := { name := "twinGoes", fn := fun _ => fun
  | [d1, d2, d3, d4] => { results := [.lit (.bool false)], args := [d1, d2, d3, d4] }
  | _ => none }
def TwinGoesWrongFalsely : Prop := twinGoesRow.holds Try.pinned (OpenSpec.ofChange twinGoesWrong)

/-- 'scrimlaw34.TwinApart': WHATEVER THE INPUT: true; the input reads as it did. -/
def twinApartSpec : ChangeSpec := { name := "twinApart", fn := fun _ => fun
  | [d1, d2] => { results := [.lit (.bool true)], args := [d1, d2] }
  | _ => none }
def twinApartRow : OpenClaim := { program := "ytfiobbhicicchaa", sum := "f2e7671446b0ba597ae80984b7fe4545ecb242faf7f9ea9f155d51e6aee2aacc", func := "scrim/scrimlaw34.TwinApart", spec := "twinApart", unfollowed := true, recurses := true, loops := true, apart := false }
def TwinApartSaid : Prop := twinApartRow.holds Try.pinned (OpenSpec.ofChange twinApartSpec)

/-- ITS FALSE NEIGHBOUR: 'it returns false'. Refute it at one input. -/
def twinApartWrong : ChangeSpec := { name := "twinApart", fn := fun _ => fun
  | [d1, d2] => { results := [.lit (.bool false)], args := [d1, d2] }
  | _ => none }
def TwinApartWrongFalsely : Prop := twinApartRow.holds Try.pinned (OpenSpec.ofChange twinApartWrong)

/- THE SECOND FORM. 'bulk': how many values and letters a reading holds, each counted each time it is reached (what is shared counts as often as it is met; a slice's spare places count too). A statement '..UptoSaid' is the law's where the arguments, and the package variables that the reading takes, are together of bulk at most 1048576: NARROWER than '..Said'. Prove '..Said' where nothing that the law and all that it calls make is longer than what came in: it says more and counts as full. Else prove '..UptoSaid'. A law counts once. -/
mutual
def uptoBulk {H : Type} : DataW H → Nat
  | .lit (.string bytes) => bytes.length + 1
  | .lit _ => 1
  | .nil => 1
  | .ptr d => uptoBulk d + 1
  | .slice elems spare => uptoBulkAll elems + uptoBulkAll spare + 1
  | .agg parts => uptoBulkAll parts + 1
  | .iface _ d => uptoBulk d + 1
  | .map entries => uptoBulkEntries entries + 1
  | .held _ => 1
def uptoBulkAll {H : Type} : List (DataW H) → Nat
  | [] => 0
  | d :: r => uptoBulk d + uptoBulkAll r
def uptoBulkEntries {H : Type} : List (Lit × DataW H) → Nat
  | [] => 0
  | x :: r => uptoBulkEntry x + uptoBulkEntries r
def uptoBulkEntry {H : Type} : Lit × DataW H → Nat
  | (.string bytes, d) => bytes.length + uptoBulk d + 1
  | (_, d) => uptoBulk d + 1
 end
def uptoSmall : (H : Type) → List (DataW H) → Bool := fun _ ds => decide (uptoBulkAll ds ≤ 1048576)
def OpenSpec.upto (s : _root_.Go.ChangeSpec) : _root_.Go.OpenSpec := { _root_.Go.OpenSpec.ofChange s with cond := some uptoSmall }

/-- 'scrimlaw34.TwinAlike', WHERE WHAT IT READS IS OF BULK AT MOST 1048576: true; the input reads as it did. -/
def twinAlikeUptoRow : OpenClaim := { program := "ytfiobbhicicchaa", sum := "f2e7671446b0ba597ae80984b7fe4545ecb242faf7f9ea9f155d51e6aee2aacc", func := "scrim/scrimlaw34.TwinAlike", spec := "twinAlike", unfollowed := true, recurses := true, loops := true, apart := false, narrowed := true }
def TwinAlikeUptoSaid : Prop := twinAlikeUptoRow.holds Try.pinned (OpenSpec.upto twinAlikeSpec)

/-- 'scrimlaw34.TwinGoes', WHERE WHAT IT READS IS OF BULK AT MOST 1048576: true; the input reads as it did. -/
def twinGoesUptoRow : OpenClaim := { program := "ytfiobbhicicchaa", sum := "f2e7671446b0ba597ae80984b7fe4545ecb242faf7f9ea9f155d51e6aee2aacc", func := "scrim/scrimlaw34.TwinGoes", spec := "twinGoes", unfollowed := true, recurses := true, loops := true, apart := false, narrowed := true }
def TwinGoesUptoSaid : Prop := twinGoesUptoRow.holds Try.pinned (OpenSpec.upto twinGoesSpec)

/-- 'scrimlaw34.TwinApart', WHERE WHAT IT READS IS OF BULK AT MOST 1048576: true; the input reads as it did. -/
def twinApartUptoRow : OpenClaim := { program := "ytfiobbhicicchaa", sum := "f2e7671446b0ba597ae80984b7fe4545ecb242faf7f9ea9f155d51e6aee2aacc", func := "scrim/scrimlaw34.TwinApart", spec := "twinApart", unfollowed := true, recurses := true, loops := true, apart := false, narrowed := true }
def TwinApartUptoSaid : Prop := twinApartUptoRow.holds Try.pinned (OpenSpec.upto twinApartSpec)

end Rows
end Go.Proofs.Ytfiobbhicicchaa
