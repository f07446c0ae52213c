/-
  append onto a slice that is full, at a step of a region that draws its order: a new row. No program in it.
-/
import Derived.Test.YtmhicplhfbnpaaaDoorSl2
namespace Go.Proofs.YtmhicplhfbnpaaaDoor
set_option linter.unusedVariables false
open Go.RowKit
variable {P : Program}

theorem run_app_full {w : World} (t ty : TypeId) (e : TypeId) (i : TypeInfo) (z : Value) (size : Nat) (ht : P.underlying t = some (.slice e)) (hi : P.info? e = some i) (hz : i.zero = some z)
    (hsize : i.size = size) (hzs : z.cells.size = size) (ao : Option Addr) (n : Nat) (xs : List Value) (hv : Sl w (.slice ao n n) size n xs)
    (vx : Value) (m : Nat) (news : List Value) (hx : Sl w vx size m news) (h1 : ∀ u ∈ news, u.oneCell' = true) (hm : 0 < m)
    (h63 : n + m ≤ 9223372036854775807) (hfit : Builtin.nextslicecap (n + m) n * i.bytes ≤ 281474976710656) :
    ∃ v' w', (Builtin.append_ #[t, t] ty #[.slice ao n n, vx]).run P w = .ok v' w' ∧ w'.ownsRow w.heap.size e size v' (n + m) (xs ++ news) ∧ Fr none' w w' ∧ v'.ownBlock = some w.heap.size := by
  subst hsize
  have hsrc := hx.src (P := P) ht h1
  have hlx := hx.len
  have hlv := hv.len
  have hold : (Builtin.firstCells i.size n (.slice ao n n)).run P w.drew = .ok xs.toArray w.drew := by
    obtain ⟨ao', cap, e', h2, h3, h4, h5⟩ := hv
    injection e' with e1 e2 e3
    subst e1
    rcases Nat.eq_zero_or_pos n with h0 | h0
    · subst h0
      rw [Nat.zero_mul] at hlv
      rw [List.eq_nil_of_length_eq_zero hlv]
      cases ao with
      | none => exact run_firstCells_none w.drew i.size 0 0 0
      | some a => exact run_firstCells_some w.drew i.size 0 a 0 0 [] (by simp) (fun _ _ h => by cases h)
    · obtain ⟨g, off, rfl, hg, hc⟩ := h5 h0
      refine run_firstCells_some w.drew i.size n _ n n xs hlv (fun j v hj => ?_)
      rw [show (⟨g, off, none⟩ : Addr).add j = ⟨g, off + j, none⟩ from by simp [Addr.add]]
      exact hc j v hj
  have hrun := run_append_grow_src (P := P) w t t ty e i z ht hi hz ao n n xs hold vx m news hsrc (by omega) (by omega) hfit
  refine ⟨_, _, hrun, ?_, ((Fr.refl _ _).drew).alloc _, rfl⟩
  have hg := grownCap_ge w (n + m) n e
  refine ⟨?_, .inr ⟨w.heap.size, _, _, rfl, Nat.le_refl _, blk_alloc_new rfl, by omega, grownCap_le_maxLen w (n + m) n e (by unfold maxLen; omega), ?_, ?_⟩⟩
  · rw [List.length_append, hlx, hlv, Nat.add_mul]
  · simp only [Array.size_append, List.size_toArray, List.length_append, size_zeroCells, hzs, hlx, hlv]
    rw [← Nat.add_mul, ← Nat.add_mul]
    congr 1
    omega
  · have e1 : (xs ++ news).length = (n + m) * i.size := by rw [List.length_append, hlx, hlv, Nat.add_mul]
    rw [← e1]
    simp only [Array.toList_append, List.length_append]
    rw [← List.length_append, List.take_left' rfl]

theorem step_app_full {w : World} {ops : Array Oper} {o : Oper} {a : Act} {K : Act → World → Prop} {Q : Exit → Act → World → Prop} {E : Prop} (hgd : o.guard = none) (s x : Operand) (t : TypeId)
    (ho : o.op = .call { callee := .builtin .append, args := #[s, x], argTypes := #[t, t] })
    (e : TypeId) (i : TypeInfo) (z : Value) (size : Nat) (ht : P.underlying t = some (.slice e)) (hi : P.info? e = some i) (hz : i.zero = some z)
    (hsize : i.size = size) (hzs : z.cells.size = size) (ao : Option Addr) (n : Nat) (xs : List Value) (hs : a.eval s = .slice ao n n) (hv : Sl w (.slice ao n n) size n xs)
    (vx : Value) (m : Nat) (news : List Value) (hx : a.eval x = vx) (hxv : Sl w vx size m news) (h1 : ∀ u ∈ news, u.oneCell' = true) (hm : 0 < m)
    (h63 : n + m ≤ 9223372036854775807) (hfit : Builtin.nextslicecap (n + m) n * i.bytes ≤ 281474976710656)
    (h : ∀ v' w', w'.ownsRow w.heap.size e size v' (n + m) (xs ++ news) → Fr none' w w' → v'.ownBlock = some w.heap.size → K (a.put o.dst v') w') :
    if Region.wanted o (yielded ops a.tmps) = true then Oper.wp P o a w K Q else E := by
  have hw : Region.wanted o (yielded ops a.tmps) = true := by simp [Region.wanted, hgd]
  rw [if_pos hw]
  obtain ⟨v', w', hr, h2, h3, h4⟩ := run_app_full (P := P) t o.type e i z size ht hi hz hsize hzs ao n xs hv vx m news hxv h1 hm h63 hfit
  unfold Oper.wp execOp
  simp only [ho, resolve, invoke, builtin, Sem.run_bind, Sem.run_pure, Result.andThen_ok, List.map_toArray, List.map_cons, List.map_nil, hs, hx, hr]
  exact h v' w' h2 h3 h4
theorem nextcap_small : ∀ n, n < 25 → Builtin.nextslicecap (n + 1) n ≤ 64 := by decide
end Go.Proofs.YtmhicplhfbnpaaaDoor
