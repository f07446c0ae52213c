/-
  DiskParts: bytes that are dropped in two parts are as dropped at once; Trim and Cut do not stand in each other's way. No condition.
-/
import Derived.Test.YtnflppgmccddoaaPartsW
import Derived.Test.YtnflppgmccddoaaLaw
import Derived.Test.YtnflppgmccddoaaOpen
namespace Go.Proofs.Ytnflppgmccddoaa
set_option linter.unusedVariables false
open Go.ChangeShapes Go.WideShapes Go.ChangeAt Go.RowKit

theorem diskParts.own : ownKnob Try.prog.godebug = none := by kernel_rfl
theorem diskParts.laidOut : laidOutB Try.prog = true := by kernel_rfl

set_option maxRecDepth 100000 in
theorem diskParts_lifted (os : Os) (started : os.Started) (H : Type) (enc : TypeId × Value → H) :
    ReturnsInHanded {} Try.checked os 6 .any (Rows.diskPartsSpec.pre6 enc Try.prog Try.f6 Rows.diskPartsRow.domain false) (Rows.diskPartsSpec.post enc Try.prog Try.f6 false true false false) := by
  refine returnsInHanded_of_change (C := Try.checked) diskParts.own started (by kernel_rfl) Try.func6
    (ChangeSpec.witness6 (enc := enc) (C := Try.checked) false ⟨#[], #[.slice none 0 0, .agg #[.int .i64 0, .int .i64 0]], []⟩ 8 (by kernel_rfl) (by kernel_rfl) (by kernel_rfl) (by kernel_rfl)) ?_
  intro W base args ds gs before hval0 hW hcnd _
  have hval : ∀ (j : Nat) t v, Try.f6.params[j]? = some t → args[j]? = some v → Value.okWide Try.prog W .any base t v := hval0
  have hW' := hW
  obtain ⟨p, q, hA0, hV, rfl, hfz, hnd⟩ := hW
  have hA : DataW.TrodAll enc Try.prog W 0 (fun _ => true) true Try.f6.params.toList args.toList ds p := hA0
  rw [Try.params6] at hA hval
  obtain ⟨v0, v1, d0, d1, p0, p1, rfl, rfl, rfl, h0, h1⟩ := trodAll_two hA
  obtain ⟨rfl, rfl⟩ := trodVars_none hV
  obtain ⟨L0, hL0, hl0⟩ := bytes_arg Try.underlying27 Try.underlying5 (by kernel_rfl) (hval 0 27 v0 rfl rfl) h0
  obtain ⟨x1, y1, rfl, hx1, hy1⟩ := arr2_arg Try.underlying44 Try.underlying3 (by kernel_rfl) (by kernel_rfl) (hval 1 44 v1 rfl rfl) h1
  exact law_post (tb := 4) diskParts.laidOut (by kernel_rfl) rfl Try.underlying4 rfl hW' rfl (parts_walk v0 L0 x1 y1 W hL0 hl0)

theorem diskParts_holds : Rows.DiskPartsSaid :=
  OpenClaim.holds_of_wide 6 Try.f6 rfl rfl rfl rfl rfl rfl rfl ⟨rfl, rfl, rfl, rfl, rfl⟩ rfl rfl rfl rfl rfl (by kernel_rfl) Try.func6 (by kernel_rfl)
    (of_decide_eq_true (by kernel_rfl)) (by unfold Func.isWrapper; first | (rw [if_pos (by decide +kernel)]; kernel_rfl) | (rw [if_neg (by decide +kernel)]; exact ⟨rfl, rfl⟩))
    (fun os started H enc _ => diskParts_lifted os started H enc)
#print axioms diskParts_holds
end Go.Proofs.Ytnflppgmccddoaa
