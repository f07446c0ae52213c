/-
  gimbalref00.Bring.
-/
import Derived.Test.YtmhicplhfbnpaaaDoorRows
import Derived.Test.YtmhicplhfbnpaaaDoorCore
namespace Go.Proofs.YtmhicplhfbnpaaaDoor
set_option linter.unusedVariables false
open Go.RowKit

theorem tmod_facts (i n : Int) (h0 : 1 ≤ n) : -n < i.tmod n ∧ i.tmod n < n ∧ (i.tmod n < 0 → i % n = i.tmod n + n) ∧ (0 ≤ i.tmod n → i % n = i.tmod n) := by
  have h1 := Int.tmod_eq_emod (a := i) (b := n)
  have h2 := Int.emod_nonneg i (show n ≠ 0 by omega)
  have h3 := Int.emod_lt_of_pos i (show 0 < n by omega)
  have h4 : (n.natAbs : Int) = n := by omega
  split at h1
  · refine ⟨by omega, by omega, by omega, by omega⟩
  · refine ⟨by omega, by omega, by omega, by omega⟩

theorem bring_ex (i n : Int) (w : World) (h0 : 1 ≤ n) (h1 : n ≤ 9223372036854775807) :
    Calls Tryd.prog 15 #[.int .i64 i, .int .i64 n] w fun e w' => ∃ m, e = .returned (.int .i64 m) ∧ 0 ≤ m ∧ m < n ∧ Hid (m = i % n) ∧ w = w' := by
  obtain ⟨t1, t2, t3, t4⟩ := tmod_facts i n h0
  have g0 : 0 ≤ i % n := Int.emod_nonneg i (by omega)
  have g1 : i % n < n := Int.emod_lt_of_pos i (by omega)
  have fin : ∀ (m : Int) (w' : World), i % n = m → w = w' → ∃ m', Ending.returned (.int .i64 m) = .returned (.int .i64 m') ∧ 0 ≤ m' ∧ m' < n ∧ Hid (m' = i % n) ∧ w = w' := fun m w' h h' => ⟨m, rfl, by omega, by omega, h.symm, h'⟩
  have fin' := Lib.hid fin
  have t3' := Lib.hid t3
  have t4' := Lib.hid t4
  clear t3 t4 fin
  go_enter Tryd.func15, Tryd.ntmps15
  go_wp2
  all_goals go_ret
  · exact fin'.out _ _ (t3'.out ‹_›) rfl
  · exact fin'.out _ _ (t4'.out ‹_›) rfl

theorem bring_q (i n : Int) (w : World) (h0 : 1 ≤ n) (h1 : n ≤ 9223372036854775807) :
    Calls Tryd.prog 15 #[.int .i64 i, .int .i64 n] w fun e w' => e = .returned (.int .i64 (i % n)) ∧ w' = w := by
  refine (bring_ex i n w h0 h1).mono ?_
  rintro e w' ⟨m, rfl, _, _, h, rfl⟩
  exact ⟨by rw [h.out], rfl⟩

end Go.Proofs.YtmhicplhfbnpaaaDoor
