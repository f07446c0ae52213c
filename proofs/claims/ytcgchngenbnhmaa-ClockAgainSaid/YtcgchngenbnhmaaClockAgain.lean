/-
  ClockAgain: behind a Reset a clock is as a new one, for every limit, number of ticks ahead and list of calls. No condition.
-/
import Derived.Test.YtcgchngenbnhmaaAgainW
import Derived.Test.YtcgchngenbnhmaaLaw
namespace Go.Proofs.Ytcgchngenbnhmaa
set_option linter.unusedVariables false
open Go.ChangeShapes Go.WideShapes Go.ChangeAt Go.RowKit

theorem clockAgain.own : ownKnob Try.prog.godebug = none := by kernel_rfl
theorem clockAgain.laidOut : laidOutB Try.prog = true := by kernel_rfl

set_option maxRecDepth 100000 in
theorem clockAgain_lifted (os : Os) (started : os.Started) (H : Type) (enc : TypeId × Value → H) :
    ReturnsInHanded {} Try.checked os 3 .any (Rows.clockAgainSpec.pre6 enc Try.prog Try.f3 Rows.clockAgainRow.domain false) (Rows.clockAgainSpec.post enc Try.prog Try.f3 false true false false) := by
  refine returnsInHanded_of_change (C := Try.checked) clockAgain.own started (by kernel_rfl) Try.func3
    (ChangeSpec.witness6 (enc := enc) (C := Try.checked) false ⟨#[], #[.int .i64 0, .int .i64 0, .slice none 0 0], []⟩ 8 (by kernel_rfl) (by kernel_rfl) (by kernel_rfl) (by kernel_rfl)) ?_
  intro W base args ds gs before hval0 hW hcnd _
  have hval : ∀ (j : Nat) t v, Try.f3.params[j]? = some t → args[j]? = some v → Value.okWide Try.prog W .any base t v := hval0
  have hW' := hW
  obtain ⟨p, q, hA0, hV, rfl, hfz, hnd⟩ := hW
  have hA : DataW.TrodAll enc Try.prog W 0 (fun _ => true) true Try.f3.params.toList args.toList ds p := hA0
  rw [Try.params3] at hA hval
  obtain ⟨v0, v1, v2, d0, d1, d2, p0, p1, p2, rfl, rfl, rfl, h0, h1, h2⟩ := trodAll_three hA
  obtain ⟨rfl, rfl⟩ := trodVars_none hV
  obtain ⟨n0, rfl, n0a, n0b⟩ := int_arg Try.underlying3 (hval 0 3 v0 rfl rfl) h0
  obtain ⟨n1, rfl, n1a, n1b⟩ := int_arg Try.underlying3 (hval 1 3 v1 rfl rfl) h1
  obtain ⟨a2, len2, cap2, f2, rfl, hl2, hf2⟩ := bools_arg Try.underlying22 Try.underlying4 (by kernel_rfl) (hval 2 22 v2 rfl rfl) h2
  exact law_post (tb := 4) clockAgain.laidOut (by kernel_rfl) rfl Try.underlying4 rfl hW' rfl (again_walk n0 n1 a2 len2 cap2 f2 W hf2 hl2)

theorem clockAgain_holds : Rows.ClockAgainSaid :=
  OpenClaim.holds_of_wide 3 Try.f3 rfl rfl rfl rfl rfl rfl rfl ⟨rfl, rfl, rfl, rfl, rfl⟩ rfl rfl rfl rfl rfl (by kernel_rfl) Try.func3 (by kernel_rfl)
    (of_decide_eq_true (by kernel_rfl)) (by unfold Func.isWrapper; first | (rw [if_pos (by decide +kernel)]; kernel_rfl) | (rw [if_neg (by decide +kernel)]; exact ⟨rfl, rfl⟩))
    (fun os started H enc _ => clockAgain_lifted os started H enc)
#print axioms clockAgain_holds
end Go.Proofs.Ytcgchngenbnhmaa
