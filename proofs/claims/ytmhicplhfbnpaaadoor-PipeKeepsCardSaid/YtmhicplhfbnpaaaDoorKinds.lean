/-
  What the row's condition on gimbal/item.kinds gives a walk, and that the door's own heap meets it.
-/
import Derived.Test.YtmhicplhfbnpaaaDoorRows
import Derived.Test.YtmhicplhfbnpaaaDoorItemC
import Derived.ProofKit
import Derived.LaidMore
import Derived.OpenShut
import Derived.Stop.Joined
namespace Go.Proofs.YtmhicplhfbnpaaaDoor
set_option linter.unusedVariables false
open Go.ChangeShapes Go.WideShapes Go.ChangeAt Go.RowKit

theorem gKinds : Tryd.prog.globalNamed "gimbal/item.kinds" = some 0 := by kernel_rfl
theorem tKinds : (Tryd.prog.globals[0]?).map (·.type) = some 86 := by kernel_rfl
def kindsLaid {H : Type} : List (String × DataW H) := [("gimbal/item.kinds", Rows.laid_gimbal_item_kinds)]

theorem kinds_of_laid {W : World} (h : laidMetH Tryd.prog [("gimbal/item.kinds", Rows.laid_gimbal_item_kinds)] W) : KindsAt W := by
  rw [MakeChecks.laidMetH_plain _ _ _ (by kernel_rfl)] at h
  obtain ⟨ps, ⟨g0, t0, cs0, f0, p0, q0, hg0, ht0, hv0, hd0, _⟩, _⟩ := h
  obtain rfl := Option.some.inj (gKinds.symm.trans hg0)
  obtain rfl := Option.some.inj (tKinds.symm.trans ht0)
  obtain ⟨xs, m1, rfl, hx1, hlen, hn, hel⟩ := DataW.trod_array Tryd.underlying86 hd0
  have c3 : Tryd.prog.cellsOf 3 = 1 := by kernel_rfl
  simp only [Prod.mk.injEq, DataW.agg.injEq, Rows.laid_gimbal_item_kinds] at hx1
  intro i hi
  have hx := hel i hi
  obtain ⟨x, hxi⟩ : ∃ x, xs[i]? = some x := by rw [List.getElem?_eq_getElem (by omega)]; exact ⟨_, rfl⟩
  rw [c3, hxi] at hx
  obtain ⟨k, e1, e2, _⟩ := DataW.trod_int Tryd.underlying3 hx
  have hk : (xs.map (·.1))[i]? = some (.lit (.int .i64 k)) := by rw [List.getElem?_map, hxi, e2]; rfl
  rw [← hx1.1] at hk
  have hc : cs0.toList[i]? = some (.int .i64 k) := by
    have := congrArg (·[0]?) e1
    simp [List.getElem?_take, List.getElem?_drop] at this
    simpa using this
  rw [World.var?_cell hg0 hv0 i, ← Array.getElem?_toList, hc]
  congr 2
  rcases (show i = 0 ∨ i = 1 ∨ i = 2 ∨ i = 3 ∨ i = 4 ∨ i = 5 ∨ i = 6 ∨ i = 7 ∨ i = 8 ∨ i = 9 by omega) with rfl | rfl | rfl | rfl | rfl | rfl | rfl | rfl | rfl | rfl <;> (simp at hk; rw [← hk]; rfl)

/-- The door's own heap meets the condition. -/
theorem kinds_met (os : Os) (args : Array Value) : laidMetH Tryd.prog [("gimbal/item.kinds", Rows.laid_gimbal_item_kinds)] ((World.doorLaid Tryd.prog 4000 os).forCall (fun _ _ => 0) ⟨#[], args, []⟩).memory :=
  laidMetH_of_parts3 (fuel := 8) (laidMet_of_run' 8 (by kernel_rfl) (by kernel_rfl)) (by kernel_rfl) (by kernel_rfl)

end Go.Proofs.YtmhicplhfbnpaaaDoor
