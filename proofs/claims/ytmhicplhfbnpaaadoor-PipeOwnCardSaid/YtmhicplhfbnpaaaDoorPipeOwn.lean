/-
  PipeOwn: what is answered is new memory. No condition of ours; the row's own: gimbal/item.kinds holds what the program's text lays.
-/
import Derived.Test.YtmhicplhfbnpaaaDoorPipeO
import Derived.Test.YtmhicplhfbnpaaaDoorLaw
import Derived.Test.YtmhicplhfbnpaaaDoorKinds
import Derived.Test.YtmhicplhfbnpaaaDoorTie
import Derived.Test.YtmhicplhfbnpaaaDoorCards
import Derived.SevenTiedAt
namespace Go.Proofs.YtmhicplhfbnpaaaDoor
set_option linter.unusedVariables false
open Go.ChangeShapes Go.WideShapes Go.ChangeAt Go.RowKit

theorem pipeOwn.own : ownKnob Tryd.prog.godebug = none := by kernel_rfl
theorem pipeOwn.laidOut : laidOutB Tryd.prog = true := by kernel_rfl

set_option maxRecDepth 100000 in
theorem pipeOwn_lifted (os : Os) (started : os.Started) (H : Type) (enc : TypeId × Value → H) :
    ReturnsInHanded {} Tryd.checked os 7 .any (fun w args => (Rows.pipeOwnSpec.pre enc Tryd.prog Tryd.f7 [] false w args ∧ laidMetH Tryd.prog [("gimbal/item.kinds", Rows.laid_gimbal_item_kinds)] w) ∧ sizedMet enc Tryd.prog Tryd.f7 (OpenSpec.ofChange Rows.pipeOwnSpec) false w args)
      (Rows.pipeOwnSpec.post enc Tryd.prog Tryd.f7 false true false false) := by
  refine returnsInHanded_of_change_and (C := Tryd.checked) (X := fun w _ => laidMetH Tryd.prog [("gimbal/item.kinds", Rows.laid_gimbal_item_kinds)] w) (fun _ _ _ hh h => h.of_heap hh) pipeOwn.own started (by kernel_rfl) Tryd.func7
    (ChangeSpec.witness_shaped (enc := enc) (C := Tryd.checked) (os := os) (X := fun w _ => laidMetH Tryd.prog [("gimbal/item.kinds", Rows.laid_gimbal_item_kinds)] w) false (World.doorLaid Tryd.prog 4000 os) #[.slice none 0 0] 8 rfl (World.shaped_of_RefB (by kernel_rfl) (by kernel_rfl)) (by kernel_rfl) (by kernel_rfl) (by kernel_rfl) (kinds_met os _)) ?_
  intro W base args ds gs before hval0 hW _ _ hL _
  have hval : ∀ (j : Nat) t v, Tryd.f7.params[j]? = some t → args[j]? = some v → Value.okWide Tryd.prog W .any base t v := hval0
  have hW' := hW
  have hk := kinds_of_laid hL
  obtain ⟨p, q, hA0, hV, rfl, hfz, hnd⟩ := hW
  have hA : DataW.TrodAll enc Tryd.prog W 0 (fun _ => true) true Tryd.f7.params.toList args.toList ds p := hA0
  rw [Tryd.params7] at hA hval
  obtain ⟨v0, d0, rfl, rfl, h0⟩ := trodAll_one hA
  obtain ⟨rfl, rfl⟩ := trodVars_none hV
  obtain ⟨a0, len0, cap0, f0, rfl, hl0, hf0⟩ := ints_arg Tryd.underlying51 Tryd.underlying3 (by kernel_rfl) (hval 0 51 v0 rfl rfl) h0
  exact law_post (tb := 4) pipeOwn.laidOut (by kernel_rfl) rfl Tryd.underlying4 rfl hW' rfl (own_walk a0 len0 cap0 f0 W hf0 hl0 hk)

theorem pipeOwn_holds : Rows.PipeOwnSaid :=
  OpenClaim.holds_of_wide 7 Tryd.f7 rfl rfl rfl rfl rfl rfl rfl ⟨rfl, rfl, rfl, rfl, rfl⟩ rfl rfl rfl rfl rfl (by kernel_rfl) Tryd.func7 (by kernel_rfl)
    (of_decide_eq_true (by kernel_rfl)) (by unfold Func.isWrapper; first | (rw [if_pos (by decide +kernel)]; kernel_rfl) | (rw [if_neg (by decide +kernel)]; exact ⟨rfl, rfl⟩))
    (fun os started H enc _ => pipeOwn_lifted os started H enc)

theorem pipeOwn_card_holds : Rows.PipeOwnCardSaid :=
  Claim7.holds_tied_plain_at .later [] [.data] true (true, "13bfd2b8237888a47cf3b0579d0d2d8f36f209e89556d5c7a493ee6c2a147737") false
    pipeOwn_holds (fun _ h => by cases h) (by kernel_rfl) (fun _ h => by cases h) pipeOwn_row_tie rfl ⟨rfl, rfl⟩ (by kernel_rfl) rfl
    (fun f fn hf hfn => by
      obtain rfl : f = 7 := Option.some.inj ((show Tryd.prog.funcNamed "gimbal/gimballaw12.PipeOwn" = some 7 by kernel_rfl).symm.trans hf) |>.symm
      obtain rfl : fn = Tryd.f7 := (Option.some.inj (Tryd.func7.symm.trans hfn)).symm
      exact ⟨by kernel_rfl, fun j t ht => by
        rw [Tryd.params7] at ht
        have h3 : t = 51 := by
          rcases j with _ | j
          · simpa using ht.symm
          · simp at ht
        rcases h3 with rfl
        · exact (show Tryd.prog.wantsStandIn 51 = false by kernel_rfl)⟩)
    (by kernel_rfl)
#print axioms pipeOwn_card_holds
end Go.Proofs.YtmhicplhfbnpaaaDoor
