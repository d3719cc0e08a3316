/-
  PROVED: scrim/scrimlaw29.SpaceArrays returns true for every input, and leaves its arguments as they were. The row's statement, and (where its row lists variables) its card.
  By the kit's shell of a proof (proof-skeleton, MapyProofs, ToyasCard), turned to this law; the walk is in the texts that it imports.
-/
import Derived.Test.YtogjgbmngagimaaGreatDoorM14
import Derived.Test.YtogjgbmngagimaaGreatDoorCards
import Derived.Test.YtogjgbmngagimaaGreatDoorTie
import Derived.SevenTiedAt
import Derived.Stop.Joined
import Derived.ShutString
namespace Go.Proofs.YtogjgbmngagimaaGreatDoor
open Go.ChangeShapes Go.WideShapes Go.ChangeAt Go.RowKit
open Go.ChangeMaps (open_string shut_string)
set_option linter.unusedVariables false

theorem spaceArrays_own : ownKnob Tryz.prog.godebug = none := by kernel_rfl
theorem spaceArrays_laidOut : laidOutB Tryz.prog = true := by kernel_rfl

set_option maxRecDepth 100000 in
theorem spaceArrays_lifted (os : Os) (started : os.Started) (H : Type) (enc : TypeId × Value → H) :
    ReturnsInHanded {} Tryz.checked os 5 .any (fun w args => (Rows.spaceArraysSpec.pre enc Tryz.prog Tryz.f5 [] false w args ∧ laidMetH Tryz.prog Rows.spaceArraysRow.laid w) ∧ sizedMet enc Tryz.prog Tryz.f5 (OpenSpec.ofChange Rows.spaceArraysSpec) false w args)
      (Rows.spaceArraysSpec.post enc Tryz.prog Tryz.f5 false true false false) := by
  refine returnsInHanded_of_change_and (C := Tryz.checked) (X := fun w _ => laidMetH Tryz.prog Rows.spaceArraysRow.laid w) (fun _ _ _ hh h => h.of_heap hh) spaceArrays_own started (by kernel_rfl) Tryz.func5
    (ChangeSpec.witness_shaped (enc := enc) (C := Tryz.checked) (os := os) (X := fun w _ => laidMetH Tryz.prog Rows.spaceArraysRow.laid w) false (World.laidAll Tryz.prog os Es) #[.agg #[.int .u64 0, .slice none 0 0, .slice none 0 0], .string ByteArray.empty] 8 (World.laidAll_os _ _ _) (World.shaped_of_ZipB (by kernel_rfl) (by kernel_rfl)) (by kernel_rfl) (by kernel_rfl) (by kernel_rfl) (F8 os _)) ?_
  intro W base args ds gs before hval0 hW _ hsz0 hL _
  have hval : ∀ (j : Nat) t v, Tryz.f5.params[j]? = some t → args[j]? = some v → Value.okWide Tryz.prog W .any base t v := hval0
  have hszj : ∀ (j : Nat) (t : TypeId) (d : DataW H), Tryz.f5.params.toList[j]? = some t → ds[j]? = some d → ∀ n ∈ d.weights Tryz.prog t, n ≤ reachBytes := fun j t d ht hd n hn => of_decide_eq_true (List.all_eq_true.1 hsz0 n (DataW.weights_mem_each (j := j) (List.getElem?_append_left (List.getElem?_eq_some_iff.1 ht).1 ▸ ht) (List.getElem?_append_left (List.getElem?_eq_some_iff.1 hd).1 ▸ hd) n hn))
  rw [Tryz.params5] at hszj
  have hW' := hW
  obtain ⟨p, q, hA0, hV, rfl, hfz, hnd⟩ := hW
  have hA : DataW.TrodAll enc Tryz.prog W 0 (fun _ => true) true Tryz.f5.params.toList args.toList ds p := hA0
  rw [Tryz.params5] at hA hval
  obtain ⟨v0, vs0, d0, ds0, p0, q0, hargs, rfl, rfl, h0, r0⟩ := trodAll_cons hA
  obtain ⟨v1, vs1, d1, ds1, p1, q1, rfl, rfl, rfl, h1, r1⟩ := trodAll_cons r0
  obtain ⟨rfl, rfl, rfl⟩ := trodAll_nil r1
  obtain rfl : args = #[v0, v1] := by cases args; simp_all
  obtain ⟨rfl, rfl⟩ := trodVars_none hV
  have k0 := h0
  have lt0 : ∀ x ∈ p0, x.block < W.heap.size := by obtain ⟨m, hm⟩ := k0; exact DataW.trod_lt m _ _ _ hm
  obtain ⟨C0, rfl, _⟩ := okWide_struct Tryz.underlying42 (hval 0 42 v0 rfl rfl)
  obtain ⟨fu0, fh0⟩ := h0
  obtain ⟨nm0, w0⟩ := (Y2 _).1 _ _ fh0 (hszj 0 _ _ rfl rfl)
  have w0' : IsArr W W.heap.size nm0 C0.toList := by simpa [Value.cells] using w0
  obtain ⟨a1, rfl, rfl, rfl, w1⟩ := open_string Tryz.underlying9 (hval 1 9 v1 rfl rfl) h1
  have hlaid := Baa hL
  clear hA0 hval0
  refine (Jm nm0 C0 a1 W w0' w1 hlaid).mono fun e W' ⟨he, bel⟩ => ?_
  subst he
  exact ⟨_, rfl, _, _, _, [], _, [], hW', trodAll_mk1 (shut_bool Tryz.underlying4 _), (trodAll_cons_mk (Below.trod spaceArrays_laidOut (by kernel_rfl) (of_decide_eq_true (by kernel_rfl)) k0 bel lt0) (trodAll_cons_mk (shut_string Tryz.underlying9 w1) trodAll_mk0)), rfl, bel.frame _, fun h => by cases h⟩

theorem spaceArrays_j0 : (Rows.spaceArraysRow.inPlace == Tryz.prog.inPlace 5) = true := by kernel_rfl
theorem spaceArrays_j1 : (Rows.spaceArraysRow.unfollowed == Tryz.prog.unfollowed 5) = true := by kernel_rfl
theorem spaceArrays_j2 : (Rows.spaceArraysRow.recurses == Tryz.prog.recurses 5) = true := by kernel_rfl
theorem spaceArrays_j3 : (Rows.spaceArraysRow.named == Tryz.prog.varsNamed 5) = true := by kernel_rfl
theorem spaceArrays_joined : joinedFacts Tryz.prog 5 Tryz.f5 Rows.spaceArraysSpec Rows.spaceArraysRow = true := by
  unfold joinedFacts
  rw [spaceArrays_j0, spaceArrays_j1, spaceArrays_j2, spaceArrays_j3]
  kernel_rfl

theorem spaceArrays_holds : Rows.SpaceArraysSaid :=
  OpenClaim.holds_of_wide 5 Tryz.f5 rfl rfl rfl rfl rfl rfl rfl ⟨rfl, rfl, rfl, rfl, rfl⟩ rfl rfl rfl rfl rfl (by as_aux_lemma => kernel_rfl) Tryz.func5 spaceArrays_joined
    (of_decide_eq_true (by as_aux_lemma => kernel_rfl)) (by unfold Func.isWrapper; first | (rw [if_pos (by decide +kernel)]; kernel_rfl) | (rw [if_neg (by decide +kernel)]; exact ⟨rfl, rfl⟩))
    (fun os started H enc _ => spaceArrays_lifted os started H enc)

theorem spaceArrays_card : Rows.SpaceArraysCardSaid :=
  Claim7.holds_tied_plain_at .later [] [.data, .data, .data, .data, .sentinel, .sentinel, .pinned] true Rows.spaceArraysCard.stood.harness true
    spaceArrays_holds (fun _ h => by cases h) (by as_aux_lemma => kernel_rfl) (fun _ h => by cases h) spaceArrays_row_tie rfl ⟨rfl, rfl⟩ (by as_aux_lemma => kernel_rfl) rfl
    (fun f fn hf hfn => by
      obtain rfl : f = 5 := Option.some.inj ((show Tryz.prog.funcNamed "scrim/scrimlaw29.SpaceArrays" = some 5 by kernel_rfl).symm.trans hf) |>.symm
      obtain rfl : fn = Tryz.f5 := (Option.some.inj (Tryz.func5.symm.trans hfn)).symm
      exact ⟨by kernel_rfl, fun j t ht => by
        have hall : (Tryz.f5.params.toList.all fun t => Tryz.prog.wantsStandIn t == false) = true := by kernel_rfl
        have hm : t ∈ Tryz.f5.params.toList := by simpa using Array.mem_of_getElem? ht
        exact beq_iff_eq.1 (List.all_eq_true.1 hall t hm)⟩)
    (by as_aux_lemma => kernel_rfl)
#print axioms spaceArrays_card
end Go.Proofs.YtogjgbmngagimaaGreatDoor
