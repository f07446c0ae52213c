/-
  DiskAgain: a disk that is revived, and cut to what it was, goes on as one on which nothing tore. No condition.
-/
import Derived.Test.YtnflppgmccddoaaAgainW
import Derived.Test.YtnflppgmccddoaaLaw
import Derived.Test.YtnflppgmccddoaaOpen
namespace Go.Proofs.Ytnflppgmccddoaa
set_option linter.unusedVariables false
open Go.ChangeShapes Go.WideShapes Go.ChangeAt Go.RowKit

theorem diskAgain.own : ownKnob Try.prog.godebug = none := by kernel_rfl
theorem diskAgain.laidOut : laidOutB Try.prog = true := by kernel_rfl

set_option maxRecDepth 100000 in
theorem diskAgain_lifted (os : Os) (started : os.Started) (H : Type) (enc : TypeId × Value → H) :
    ReturnsInHanded {} Try.checked os 7 .any (Rows.diskAgainSpec.pre6 enc Try.prog Try.f7 Rows.diskAgainRow.domain false) (Rows.diskAgainSpec.post enc Try.prog Try.f7 false true false false) := by
  refine returnsInHanded_of_change (C := Try.checked) diskAgain.own started (by kernel_rfl) Try.func7
    (ChangeSpec.witness6 (enc := enc) (C := Try.checked) false ⟨#[], #[.slice none 0 0, .int .i64 0, .int .i64 0], []⟩ 8 (by kernel_rfl) (by kernel_rfl) (by kernel_rfl) (by kernel_rfl)) ?_
  intro W base args ds gs before hval0 hW hcnd _
  have hval : ∀ (j : Nat) t v, Try.f7.params[j]? = some t → args[j]? = some v → Value.okWide Try.prog W .any base t v := hval0
  have hW' := hW
  obtain ⟨p, q, hA0, hV, rfl, hfz, hnd⟩ := hW
  have hA : DataW.TrodAll enc Try.prog W 0 (fun _ => true) true Try.f7.params.toList args.toList ds p := hA0
  rw [Try.params7] at hA hval
  obtain ⟨v0, v1, v2, d0, d1, d2, p0, p1, p2, rfl, rfl, rfl, h0, h1, h2⟩ := trodAll_three hA
  obtain ⟨rfl, rfl⟩ := trodVars_none hV
  obtain ⟨a0, cap0, xs0, rfl, hl0, hs0, hx0⟩ := lines_arg Try.underlying49 Try.underlying27 Try.underlying5 (by kernel_rfl) (by kernel_rfl) (hval 0 49 v0 rfl rfl) h0
  obtain ⟨n1, rfl, n1a, n1b⟩ := int_arg Try.underlying3 (hval 1 3 v1 rfl rfl) h1
  obtain ⟨n2, rfl, n2a, n2b⟩ := int_arg Try.underlying3 (hval 2 3 v2 rfl rfl) h2
  exact law_post (tb := 4) diskAgain.laidOut (by kernel_rfl) rfl Try.underlying4 rfl hW' rfl (again_walk a0 cap0 xs0 n1 n2 W hl0 hs0 hx0)

theorem diskAgain_holds : Rows.DiskAgainSaid :=
  OpenClaim.holds_of_wide 7 Try.f7 rfl rfl rfl rfl rfl rfl rfl ⟨rfl, rfl, rfl, rfl, rfl⟩ rfl rfl rfl rfl rfl (by kernel_rfl) Try.func7 (by kernel_rfl)
    (of_decide_eq_true (by kernel_rfl)) (by unfold Func.isWrapper; first | (rw [if_pos (by decide +kernel)]; kernel_rfl) | (rw [if_neg (by decide +kernel)]; exact ⟨rfl, rfl⟩))
    (fun os started H enc _ => diskAgain_lifted os started H enc)
#print axioms diskAgain_holds
end Go.Proofs.Ytnflppgmccddoaa
