/-
  PipeKeeps: what was appended stays, at its op, till it is cut, or trimmed away. No condition of ours; the row's own: gimbal/item.kinds holds what the program's text lays.
-/
import Derived.Test.YtmhicplhfbnpaaaDoorPipeQ
import Derived.Test.YtmhicplhfbnpaaaDoorLaw
import Derived.Test.YtmhicplhfbnpaaaDoorKinds
import Derived.Test.YtmhicplhfbnpaaaDoorTie
import Derived.Test.YtmhicplhfbnpaaaDoorCards
import Derived.SevenTiedAt
namespace Go.Proofs.YtmhicplhfbnpaaaDoor
set_option linter.unusedVariables false
open Go.ChangeShapes Go.WideShapes Go.ChangeAt Go.RowKit

theorem pipeKeeps.own : ownKnob Tryd.prog.godebug = none := by kernel_rfl
theorem pipeKeeps.laidOut : laidOutB Tryd.prog = true := by kernel_rfl

set_option maxRecDepth 100000 in
theorem pipeKeeps_lifted (os : Os) (started : os.Started) (H : Type) (enc : TypeId × Value → H) :
    ReturnsInHanded {} Tryd.checked os 5 .any (fun w args => (Rows.pipeKeepsSpec.pre enc Tryd.prog Tryd.f5 [] false w args ∧ laidMetH Tryd.prog [("gimbal/item.kinds", Rows.laid_gimbal_item_kinds)] w) ∧ sizedMet enc Tryd.prog Tryd.f5 (OpenSpec.ofChange Rows.pipeKeepsSpec) false w args)
      (Rows.pipeKeepsSpec.post enc Tryd.prog Tryd.f5 false true false false) := by
  refine returnsInHanded_of_change_and (C := Tryd.checked) (X := fun w _ => laidMetH Tryd.prog [("gimbal/item.kinds", Rows.laid_gimbal_item_kinds)] w) (fun _ _ _ hh h => h.of_heap hh) pipeKeeps.own started (by kernel_rfl) Tryd.func5
    (ChangeSpec.witness_shaped (enc := enc) (C := Tryd.checked) (os := os) (X := fun w _ => laidMetH Tryd.prog [("gimbal/item.kinds", Rows.laid_gimbal_item_kinds)] w) false (World.doorLaid Tryd.prog 4000 os) #[.int .i64 0, .slice none 0 0] 8 rfl (World.shaped_of_RefB (by kernel_rfl) (by kernel_rfl)) (by kernel_rfl) (by kernel_rfl) (by kernel_rfl) (kinds_met os _)) ?_
  intro W base args ds gs before hval0 hW _ _ hL _
  have hval : ∀ (j : Nat) t v, Tryd.f5.params[j]? = some t → args[j]? = some v → Value.okWide Tryd.prog W .any base t v := hval0
  have hW' := hW
  have hk := kinds_of_laid hL
  obtain ⟨p, q, hA0, hV, rfl, hfz, hnd⟩ := hW
  have hA : DataW.TrodAll enc Tryd.prog W 0 (fun _ => true) true Tryd.f5.params.toList args.toList ds p := hA0
  rw [Tryd.params5] at hA hval
  obtain ⟨v0, v1, d0, d1, p0, p1, rfl, rfl, rfl, h0, h1⟩ := trodAll_two hA
  obtain ⟨rfl, rfl⟩ := trodVars_none hV
  obtain ⟨n0, rfl, n0a, n0b⟩ := int_arg Tryd.underlying3 (hval 0 3 v0 rfl rfl) h0
  obtain ⟨a1, len1, cap1, f1, rfl, hl1, hf1⟩ := ints_arg Tryd.underlying51 Tryd.underlying3 (by kernel_rfl) (hval 1 51 v1 rfl rfl) h1
  exact law_post (tb := 4) pipeKeeps.laidOut (by kernel_rfl) rfl Tryd.underlying4 rfl hW' rfl (keeps_walk n0 a1 len1 cap1 f1 W hf1 hl1 ⟨n0a, n0b⟩ hk)

theorem pipeKeeps_holds : Rows.PipeKeepsSaid :=
  OpenClaim.holds_of_wide 5 Tryd.f5 rfl rfl rfl rfl rfl rfl rfl ⟨rfl, rfl, rfl, rfl, rfl⟩ rfl rfl rfl rfl rfl (by kernel_rfl) Tryd.func5 (by kernel_rfl)
    (of_decide_eq_true (by kernel_rfl)) (by unfold Func.isWrapper; first | (rw [if_pos (by decide +kernel)]; kernel_rfl) | (rw [if_neg (by decide +kernel)]; exact ⟨rfl, rfl⟩))
    (fun os started H enc _ => pipeKeeps_lifted os started H enc)

theorem pipeKeeps_card_holds : Rows.PipeKeepsCardSaid :=
  Claim7.holds_tied_plain_at .later [] [.data] true (true, "13bfd2b8237888a47cf3b0579d0d2d8f36f209e89556d5c7a493ee6c2a147737") false
    pipeKeeps_holds (fun _ h => by cases h) (by kernel_rfl) (fun _ h => by cases h) pipeKeeps_row_tie rfl ⟨rfl, rfl⟩ (by kernel_rfl) rfl
    (fun f fn hf hfn => by
      obtain rfl : f = 5 := Option.some.inj ((show Tryd.prog.funcNamed "gimbal/gimballaw12.PipeKeeps" = some 5 by kernel_rfl).symm.trans hf) |>.symm
      obtain rfl : fn = Tryd.f5 := (Option.some.inj (Tryd.func5.symm.trans hfn)).symm
      exact ⟨by kernel_rfl, fun j t ht => by
        rw [Tryd.params5] at ht
        have h3 : t = 3 ∨ t = 51 := by
          match j, ht with
          | 0, ht => simp at ht; simp [← ht]
          | 1, ht => simp at ht; simp [← ht]
          | j + 2, ht => simp at ht
        rcases h3 with rfl | rfl
        · exact (show Tryd.prog.wantsStandIn 3 = false by kernel_rfl)
        · exact (show Tryd.prog.wantsStandIn 51 = false by kernel_rfl)⟩)
    (by kernel_rfl)
#print axioms pipeKeeps_card_holds
end Go.Proofs.YtmhicplhfbnpaaaDoor
