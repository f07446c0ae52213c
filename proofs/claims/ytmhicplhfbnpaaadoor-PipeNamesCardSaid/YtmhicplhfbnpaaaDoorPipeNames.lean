/-
  PipeNames: both ends; pipes that are none (closed). No condition of ours; the row's own: gimbal/item.kinds holds what the program's text lays.
-/
import Derived.Test.YtmhicplhfbnpaaaDoorPipeM
import Derived.Test.YtmhicplhfbnpaaaDoorLaw
import Derived.Test.YtmhicplhfbnpaaaDoorKinds
import Derived.Test.YtmhicplhfbnpaaaDoorTie
import Derived.Test.YtmhicplhfbnpaaaDoorCards
import Derived.SevenTiedAt
namespace Go.Proofs.YtmhicplhfbnpaaaDoor
set_option linter.unusedVariables false
open Go.ChangeShapes Go.WideShapes Go.ChangeAt Go.RowKit

theorem pipeNames.own : ownKnob Tryd.prog.godebug = none := by kernel_rfl
theorem pipeNames.laidOut : laidOutB Tryd.prog = true := by kernel_rfl

set_option maxRecDepth 100000 in
theorem pipeNames_lifted (os : Os) (started : os.Started) (H : Type) (enc : TypeId × Value → H) :
    ReturnsInHanded {} Tryd.checked os 8 .any (fun w args => (Rows.pipeNamesSpec.pre enc Tryd.prog Tryd.f8 [] false w args ∧ laidMetH Tryd.prog [("gimbal/item.kinds", Rows.laid_gimbal_item_kinds)] w) ∧ sizedMet enc Tryd.prog Tryd.f8 (OpenSpec.ofChange Rows.pipeNamesSpec) false w args)
      (Rows.pipeNamesSpec.post enc Tryd.prog Tryd.f8 false true false false) := by
  refine returnsInHanded_of_change_and (C := Tryd.checked) (X := fun w _ => laidMetH Tryd.prog [("gimbal/item.kinds", Rows.laid_gimbal_item_kinds)] w) (fun _ _ _ hh h => h.of_heap hh) pipeNames.own started (by kernel_rfl) Tryd.func8
    (ChangeSpec.witness_shaped (enc := enc) (C := Tryd.checked) (os := os) (X := fun w _ => laidMetH Tryd.prog [("gimbal/item.kinds", Rows.laid_gimbal_item_kinds)] w) false (World.doorLaid Tryd.prog 4000 os) #[] 8 rfl (World.shaped_of_RefB (by kernel_rfl) (by kernel_rfl)) (by kernel_rfl) (by kernel_rfl) (by kernel_rfl) (kinds_met os _)) ?_
  intro W base args ds gs before hval0 hW _ _ hL _
  have hval : ∀ (j : Nat) t v, Tryd.f8.params[j]? = some t → args[j]? = some v → Value.okWide Tryd.prog W .any base t v := hval0
  have hW' := hW
  have hk := kinds_of_laid hL
  obtain ⟨p, q, hA0, hV, rfl, hfz, hnd⟩ := hW
  have hA : DataW.TrodAll enc Tryd.prog W 0 (fun _ => true) true Tryd.f8.params.toList args.toList ds p := hA0
  rw [Tryd.params8] at hA hval
  obtain ⟨rfl, rfl, rfl⟩ := trodAll_none hA
  obtain ⟨rfl, rfl⟩ := trodVars_none hV
  exact law_post (tb := 4) pipeNames.laidOut (by kernel_rfl) rfl Tryd.underlying4 rfl hW' rfl (names_walk W hk)

theorem pipeNames_holds : Rows.PipeNamesSaid :=
  OpenClaim.holds_of_wide 8 Tryd.f8 rfl rfl rfl rfl rfl rfl rfl ⟨rfl, rfl, rfl, rfl, rfl⟩ rfl rfl rfl rfl rfl (by kernel_rfl) Tryd.func8 (by kernel_rfl)
    (of_decide_eq_true (by kernel_rfl)) (by unfold Func.isWrapper; first | (rw [if_pos (by decide +kernel)]; kernel_rfl) | (rw [if_neg (by decide +kernel)]; exact ⟨rfl, rfl⟩))
    (fun os started H enc _ => pipeNames_lifted os started H enc)

theorem pipeNames_card_holds : Rows.PipeNamesCardSaid :=
  Claim7.holds_tied_plain_at .later [] [.data] true (true, "13bfd2b8237888a47cf3b0579d0d2d8f36f209e89556d5c7a493ee6c2a147737") false
    pipeNames_holds (fun _ h => by cases h) (by kernel_rfl) (fun _ h => by cases h) pipeNames_row_tie rfl ⟨rfl, rfl⟩ (by kernel_rfl) rfl
    (fun f fn hf hfn => by
      obtain rfl : f = 8 := Option.some.inj ((show Tryd.prog.funcNamed "gimbal/gimballaw12.PipeNames" = some 8 by kernel_rfl).symm.trans hf) |>.symm
      obtain rfl : fn = Tryd.f8 := (Option.some.inj (Tryd.func8.symm.trans hfn)).symm
      exact ⟨by kernel_rfl, fun j t ht => by
        rw [Tryd.params8] at ht
        simp at ht⟩)
    (by kernel_rfl)
#print axioms pipeNames_card_holds
end Go.Proofs.YtmhicplhfbnpaaaDoor
