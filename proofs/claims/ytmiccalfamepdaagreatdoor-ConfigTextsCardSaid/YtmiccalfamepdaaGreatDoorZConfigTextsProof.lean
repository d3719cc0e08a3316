/-
  PROVED: scrim/scrimlaw30.ConfigTexts returns true for every input, and leaves its arguments as they were. The row's statement, and (where its row lists variables) its card.
  By the kit's shell of a proof (proof-skeleton, MapyProofs, ToyasCard), turned to this law; the walk is in the texts that it imports.
-/
import Derived.Test.YtmiccalfamepdaaGreatDoorM18
import Derived.Test.YtmiccalfamepdaaGreatDoorCards
import Derived.Test.YtmiccalfamepdaaGreatDoorTie
import Derived.SevenTiedAt
import Derived.Stop.Joined
import Derived.ShutString
namespace Go.Proofs.YtmiccalfamepdaaGreatDoor
open Go.ChangeShapes Go.WideShapes Go.ChangeAt Go.RowKit
open Go.ChangeMaps (open_string shut_string)
set_option linter.unusedVariables false

theorem configTexts_own : ownKnob Tryz.prog.godebug = none := by kernel_rfl
theorem configTexts_laidOut : laidOutB Tryz.prog = true := by kernel_rfl

set_option maxRecDepth 100000 in
theorem configTexts_lifted (os : Os) (started : os.Started) (H : Type) (enc : TypeId × Value → H) :
    ReturnsInHanded {} Tryz.checked os 4 .any (fun w args => (Rows.configTextsSpec.pre enc Tryz.prog Tryz.f4 [] false w args ∧ laidMetH Tryz.prog Rows.configTextsRow.laid w) ∧ sizedMet enc Tryz.prog Tryz.f4 (OpenSpec.ofChange Rows.configTextsSpec) false w args)
      (Rows.configTextsSpec.post enc Tryz.prog Tryz.f4 false true false false) := by
  refine returnsInHanded_of_change_and (C := Tryz.checked) (X := fun w _ => laidMetH Tryz.prog Rows.configTextsRow.laid w) (fun _ _ _ hh h => h.of_heap hh) configTexts_own started (by kernel_rfl) Tryz.func4
    (ChangeSpec.witness_shaped (enc := enc) (C := Tryz.checked) (os := os) (X := fun w _ => laidMetH Tryz.prog Rows.configTextsRow.laid w) false (World.laidAll Tryz.prog os Iu) #[.agg #[.int .u64 0, .int .u64 0, .int .u64 0, .int .u64 0, .int .u64 0, .int .u64 0, .int .u64 0, .int .u64 0, .slice none 0 0, .slice none 0 0, .slice none 0 0, .slice none 0 0, .slice none 0 0, .slice none 0 0, .slice none 0 0, .slice none 0 0, .int .u64 0, .int .u64 0, .int .u64 0, .int .u64 0, .int .u64 0, .int .u64 0, .int .u64 0, .int .u64 0, .slice none 0 0, .slice none 0 0, .slice none 0 0, .slice none 0 0, .slice none 0 0, .slice none 0 0, .slice none 0 0, .slice none 0 0, .int .u64 0, .int .i64 0, .int .i64 0, .int .i64 0]] 8 (World.laidAll_os _ _ _) (World.shaped_of_ZipB (by kernel_rfl) (by kernel_rfl)) (by kernel_rfl) (by kernel_rfl) (by kernel_rfl) (M5 os _)) ?_
  intro W base args ds gs before hval0 hW _ hsz0 hL _
  have hval : ∀ (j : Nat) t v, Tryz.f4.params[j]? = some t → args[j]? = some v → Value.okWide Tryz.prog W .any base t v := hval0
  have hszj : ∀ (j : Nat) (t : TypeId) (d : DataW H), Tryz.f4.params.toList[j]? = some t → ds[j]? = some d → ∀ n ∈ d.weights Tryz.prog t, n ≤ reachBytes := fun j t d ht hd n hn => of_decide_eq_true (List.all_eq_true.1 hsz0 n (DataW.weights_mem_each (j := j) (List.getElem?_append_left (List.getElem?_eq_some_iff.1 ht).1 ▸ ht) (List.getElem?_append_left (List.getElem?_eq_some_iff.1 hd).1 ▸ hd) n hn))
  rw [Tryz.params4] at hszj
  have hW' := hW
  obtain ⟨p, q, hA0, hV, rfl, hfz, hnd⟩ := hW
  have hA : DataW.TrodAll enc Tryz.prog W 0 (fun _ => true) true Tryz.f4.params.toList args.toList ds p := hA0
  rw [Tryz.params4] at hA hval
  obtain ⟨v0, vs0, d0, ds0, p0, q0, hargs, rfl, rfl, h0, r0⟩ := trodAll_cons hA
  obtain ⟨rfl, rfl, rfl⟩ := trodAll_nil r0
  obtain rfl : args = #[v0] := by cases args; simp_all
  obtain ⟨rfl, rfl⟩ := trodVars_none hV
  have k0 := h0
  have lt0 : ∀ x ∈ p0, x.block < W.heap.size := by obtain ⟨m, hm⟩ := k0; exact DataW.trod_lt m _ _ _ hm
  obtain ⟨C0, rfl, _⟩ := okWide_struct Tryz.underlying29 (hval 0 29 v0 rfl rfl)
  obtain ⟨fu0, fh0⟩ := h0
  obtain ⟨cf0, w0⟩ := Vga fh0 (hszj 0 _ _ rfl rfl)
  have w0' : IsCfg W W.heap.size cf0 C0 := by simpa [Value.cells] using w0
  have hlaid := J9 hL
  clear hA0 hval0
  refine (Fr cf0 C0 W w0' hlaid).mono fun e W' ⟨he, bel⟩ => ?_
  subst he
  exact ⟨_, rfl, _, _, _, [], _, [], hW', trodAll_mk1 (shut_bool Tryz.underlying4 _), (trodAll_cons_mk (Below.trod configTexts_laidOut (by kernel_rfl) (of_decide_eq_true (by kernel_rfl)) k0 bel lt0) trodAll_mk0), rfl, bel.frame _, fun h => by cases h⟩

theorem configTexts_j0 : (Rows.configTextsRow.inPlace == Tryz.prog.inPlace 4) = true := by kernel_rfl
theorem configTexts_j1 : (Rows.configTextsRow.unfollowed == Tryz.prog.unfollowed 4) = true := by kernel_rfl
theorem configTexts_j2 : (Rows.configTextsRow.recurses == Tryz.prog.recurses 4) = true := by kernel_rfl
theorem configTexts_j3 : (Rows.configTextsRow.named == Tryz.prog.varsNamed 4) = true := by kernel_rfl
theorem configTexts_joined : joinedFacts Tryz.prog 4 Tryz.f4 Rows.configTextsSpec Rows.configTextsRow = true := by
  unfold joinedFacts
  rw [configTexts_j0, configTexts_j1, configTexts_j2, configTexts_j3]
  kernel_rfl

theorem configTexts_holds : Rows.ConfigTextsSaid :=
  OpenClaim.holds_of_wide 4 Tryz.f4 rfl rfl rfl rfl rfl rfl rfl ⟨rfl, rfl, rfl, rfl, rfl⟩ rfl rfl rfl rfl rfl (by as_aux_lemma => kernel_rfl) Tryz.func4 configTexts_joined
    (of_decide_eq_true (by as_aux_lemma => kernel_rfl)) (by unfold Func.isWrapper; first | (rw [if_pos (by decide +kernel)]; kernel_rfl) | (rw [if_neg (by decide +kernel)]; exact ⟨rfl, rfl⟩))
    (fun os started H enc _ => configTexts_lifted os started H enc)

theorem configTexts_card : Rows.ConfigTextsCardSaid :=
  Claim7.holds_tied_plain_at .later [] [.data, .data, .data, .data, .sentinel, .sentinel, .pinned] true Rows.configTextsCard.stood.harness true
    configTexts_holds (fun _ h => by cases h) (by as_aux_lemma => kernel_rfl) (fun _ h => by cases h) configTexts_row_tie rfl ⟨rfl, rfl⟩ (by as_aux_lemma => kernel_rfl) rfl
    (fun f fn hf hfn => by
      obtain rfl : f = 4 := Option.some.inj ((show Tryz.prog.funcNamed "scrim/scrimlaw30.ConfigTexts" = some 4 by kernel_rfl).symm.trans hf) |>.symm
      obtain rfl : fn = Tryz.f4 := (Option.some.inj (Tryz.func4.symm.trans hfn)).symm
      exact ⟨by kernel_rfl, fun j t ht => by
        have hall : (Tryz.f4.params.toList.all fun t => Tryz.prog.wantsStandIn t == false) = true := by kernel_rfl
        have hm : t ∈ Tryz.f4.params.toList := by simpa using Array.mem_of_getElem? ht
        exact beq_iff_eq.1 (List.all_eq_true.1 hall t hm)⟩)
    (by as_aux_lemma => kernel_rfl)
#print axioms configTexts_card
end Go.Proofs.YtmiccalfamepdaaGreatDoor
