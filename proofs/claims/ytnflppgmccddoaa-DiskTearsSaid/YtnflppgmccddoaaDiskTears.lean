/-
  DiskTears: of what tears just that many of the first bytes are there, and nothing else is touched. No condition.
-/
import Derived.Test.YtnflppgmccddoaaTearsW
import Derived.Test.YtnflppgmccddoaaLaw
import Derived.Test.YtnflppgmccddoaaOpen
namespace Go.Proofs.Ytnflppgmccddoaa
set_option linter.unusedVariables false
open Go.ChangeShapes Go.WideShapes Go.ChangeAt Go.RowKit

theorem diskTears.own : ownKnob Try.prog.godebug = none := by kernel_rfl
theorem diskTears.laidOut : laidOutB Try.prog = true := by kernel_rfl

set_option maxRecDepth 100000 in
theorem diskTears_lifted (os : Os) (started : os.Started) (H : Type) (enc : TypeId × Value → H) :
    ReturnsInHanded {} Try.checked os 5 .any (Rows.diskTearsSpec.pre6 enc Try.prog Try.f5 Rows.diskTearsRow.domain false) (Rows.diskTearsSpec.post enc Try.prog Try.f5 false true false false) := by
  refine returnsInHanded_of_change (C := Try.checked) diskTears.own started (by kernel_rfl) Try.func5
    (ChangeSpec.witness6 (enc := enc) (C := Try.checked) false ⟨#[], #[.slice none 0 0, .slice none 0 0, .agg #[.int .i64 0, .int .i64 0]], []⟩ 8 (by kernel_rfl) (by kernel_rfl) (by kernel_rfl) (by kernel_rfl)) ?_
  intro W base args ds gs before hval0 hW hcnd _
  have hval : ∀ (j : Nat) t v, Try.f5.params[j]? = some t → args[j]? = some v → Value.okWide Try.prog W .any base t v := hval0
  have hW' := hW
  obtain ⟨p, q, hA0, hV, rfl, hfz, hnd⟩ := hW
  have hA : DataW.TrodAll enc Try.prog W 0 (fun _ => true) true Try.f5.params.toList args.toList ds p := hA0
  rw [Try.params5] at hA hval
  obtain ⟨v0, v1, v2, d0, d1, d2, p0, p1, p2, rfl, rfl, rfl, h0, h1, h2⟩ := trodAll_three hA
  obtain ⟨rfl, rfl⟩ := trodVars_none hV
  obtain ⟨L0, hL0, hl0⟩ := bytes_arg Try.underlying27 Try.underlying5 (by kernel_rfl) (hval 0 27 v0 rfl rfl) h0
  obtain ⟨L1, hL1, hl1⟩ := bytes_arg Try.underlying27 Try.underlying5 (by kernel_rfl) (hval 1 27 v1 rfl rfl) h1
  obtain ⟨x2, y2, rfl, hx2, hy2⟩ := arr2_arg Try.underlying44 Try.underlying3 (by kernel_rfl) (by kernel_rfl) (hval 2 44 v2 rfl rfl) h2
  exact law_post (tb := 4) diskTears.laidOut (by kernel_rfl) rfl Try.underlying4 rfl hW' rfl (tears_walk v0 v1 L0 L1 x2 y2 W hL0 hL1 hl0 hl1)

theorem diskTears_holds : Rows.DiskTearsSaid :=
  OpenClaim.holds_of_wide 5 Try.f5 rfl rfl rfl rfl rfl rfl rfl ⟨rfl, rfl, rfl, rfl, rfl⟩ rfl rfl rfl rfl rfl (by kernel_rfl) Try.func5 (by kernel_rfl)
    (of_decide_eq_true (by kernel_rfl)) (by unfold Func.isWrapper; first | (rw [if_pos (by decide +kernel)]; kernel_rfl) | (rw [if_neg (by decide +kernel)]; exact ⟨rfl, rfl⟩))
    (fun os started H enc _ => diskTears_lifted os started H enc)
#print axioms diskTears_holds
end Go.Proofs.Ytnflppgmccddoaa
