/-
  gimbal/pipe: Append, plain part; gimbal/entry.Check.
-/
import Derived.Test.YtmhicplhfbnpaaaDoorPipeB
import Derived.Test.YtmhicplhfbnpaaaDoorSl3
namespace Go.Proofs.YtmhicplhfbnpaaaDoor
set_option linter.unusedVariables false
set_option linter.unusedSimpArgs false
open Go.RowKit
variable {F G : Nat → Prop}

theorem vblk_own {w : World} {base e k n : Nat} {v : Value} {cs : List Value} (h : w.ownsRow base e k v n cs) : vblk v = v.ownBlock := by
  obtain ⟨_, h⟩ := h
  rcases h with ⟨rfl, _⟩ | ⟨g, cap, cur, rfl, _⟩ <;> rfl

/-- One entry more. -/
theorem Pp.push {S : Nat → Prop} {w1 w3 w4 : World} {p : Nat} {base : Int} {xs : List EV} {lv v2 : Value} {y : EV} (hrow : w1.heap[p]? = some (.cells #[.int .i64 base, lv, .bool true] 67 (0, 0))) (hpe : PEnts F w1 lv xs) (hnp : ¬ F p) (hfew : xs.length < 24) (hwf : ∀ x ∈ xs, x.e.wf)
    (hyw : y.e.wf) (f13 : Fr none' w1 w3) (hy : LinesAt (New w1 w3) w3 y.v y.e.lines) (f34 : Fr S w3 w4) (hS : ∀ b, S b → F b ∧ vblk lv = some b ∧ b < w1.heap.size) (ho : w4.ownsRow 0 34 7 v2 (xs.length + 1) (entc xs ++ y.cells))
    (hb : (v2.ownBlock = vblk lv ∧ ∀ b, vblk lv = some b → F b ∧ b < w1.heap.size) ∨ v2.ownBlock = some w3.heap.size) :
    ∃ F' : Nat → Prop, (∀ i, F' i → F i ∨ w1.heap.size ≤ i) ∧ Pp F' (w4.setCell ⟨p, 1, none⟩ v2) p base (xs ++ [y]) ∧ Fr (fun i => i = p ∨ F i) w1 (w4.setCell ⟨p, 1, none⟩ v2) := by
  have hp1 := lt_of_blk hrow
  have f5 : Fr (one p) w4 (w4.setCell ⟨p, 1, none⟩ v2) := (Fr.refl _ _).set1 _
  have hF : Fr (fun i => i = p ∨ F i) w1 (w4.setCell ⟨p, 1, none⟩ v2) := ((f13.mono (fun _ _ h => h.elim)).trans f34 (fun i _ h => .inr (hS i h).1)).trans f5 (fun i _ h => .inl h)
  have hv2 : ∀ b, v2.ownBlock = some b → F b ∨ w1.heap.size ≤ b := fun b e => by
    rcases hb with ⟨h1, h2⟩ | h1
    · exact .inl (h2 b (h1 ▸ e)).1
    · rw [h1] at e
      injection e with e
      exact .inr (by have := f13.size; omega)
  have hnp' : ¬ (F p ∨ w1.heap.size ≤ p) := fun h => by
    rcases h with h | h
    · exact hnp h
    · omega
  have hl : (xs ++ [y]).length = xs.length + 1 := by simp
  have hc : entc (xs ++ [y]) = entc xs ++ y.cells := by unfold entc; rw [List.flatMap_append]; simp
  have hin : In (fun b => F b ∨ w1.heap.size ≤ b) v2 := (In.ownBlock ho).mono hv2
  have ho5 := ownsRow_keep ho f5 (fun b e e' => by cases e'; exact hnp' (hv2 _ e))
  have hvb : vblk v2 = v2.ownBlock := vblk_own ho
  have hne : ∀ b, F b → b < w1.heap.size → vblk lv ≠ some b → vblk v2 ≠ some b := fun b _ hlt hn e => by
    rw [hvb] at e
    rcases hb with ⟨h1, _⟩ | h1
    · exact hn (h1 ▸ e)
    · rw [h1] at e
      injection e with e
      have := f13.size
      omega
  refine ⟨fun b => F b ∨ w1.heap.size ≤ b, fun _ h => h, ⟨⟨v2, ?_, ⟨?_, hin, fun x hx => ?_, .inl ⟨?_, hv2⟩⟩⟩, hnp', by rw [hl]; omega, fun x hx => ?_⟩, hF⟩
  · have q4 := f34.blk (f13.blk hrow id) (fun h => hnp (hS p h).1)
    rw [blk_set_at q4 rfl]; rfl
  · rw [hl, hc]; exact Sl.of_own ho5
  · rcases List.mem_append.1 hx with hx | hx
    · have h1 := hpe.lines x hx
      have h3 := h1.keep0 f13
      have h4 := h3.keep f34 (fun b hb _ h => hb.2 (hS b h).2.1)
      have h5 := h4.keep f5 (fun b hb _ h => by cases h; exact hnp hb.1)
      refine ⟨h5.sl, (h1.mem.live (by decide) h1.sl).mono (fun b hb => ⟨.inl hb.1.1, hne b hb.1.1 hb.2 hb.1.2⟩)⟩
    · rw [List.mem_singleton.1 hx]
      have h4 := hy.keep f34 (fun b hb _ h => by have := (hS b h).2.2; have := hb.1; omega)
      have h5 := h4.keep f5 (fun b hb _ h => by cases h; have := hb.1; omega)
      refine ⟨h5.sl, hy.mem.mono (fun b hb' => ⟨.inr hb'.1, fun e => ?_⟩)⟩
      rw [hvb] at e
      rcases hb with ⟨h1, h2⟩ | h1
      · have := (h2 b (h1 ▸ e)).2
        have := hb'.1
        omega
      · rw [h1] at e
        injection e with e
        have := hb'.2
        omega
  · rw [hl, hc]; exact ho5
  · rcases List.mem_append.1 hx with hx | hx
    · exact hwf x hx
    · rw [List.mem_singleton.1 hx]; exact hyw

theorem ret_i {k : IntKind} {a b : Int} (h : a = b) : Ending.returned (.int k a) = .returned (.int k b) := by rw [h]

/-- May an entry be? -/
def okEnt (e : Ent) : Bool := (((decide (0 ≤ e.client) && decide (e.client < 8)) && decide (1 ≤ e.num)) && decide (e.num ≤ 2147483647)) && okOp e
def entNo (e : Ent) : Int := if okEnt e then 0 else 2

set_option maxHeartbeats 1000000 in
theorem echeck_any (e : Ent) (lv : Value) (w : World) (h : LinesAt F w lv e.lines) (hwf : e.wf) (hk : KindsAt w) :
    Calls Tryd.prog 41 #[.agg #[.int .i64 e.client, .int .i64 e.num, .int .i64 e.kind, .string e.sku, .int .i64 e.order, .int .i64 e.n, lv]] w fun r w' => r = .returned (.int .i64 (entNo e)) ∧ Fr none' w w' := by
  obtain ⟨la, lc, rfl⟩ := h.cells
  have fa : Fr none' w (w.alloc (.cells #[.int .i64 e.client, .int .i64 e.num, .int .i64 e.kind, .string e.sku, .int .i64 e.order, .int .i64 e.n, .slice la e.lines.length lc] 34)) := (Fr.refl _ _).alloc _
  have hfa := Lib.hid fa
  have hl := Lib.hid (h.keep0 fa)
  have hkh := Lib.hid (hk.keep0 fa)
  have hwfh := Lib.hid hwf
  clear h fa hk hwf
  by_cases h1 : 0 ≤ e.client
  · by_cases h2 : e.client < 8
    · by_cases h3 : 1 ≤ e.num
      · by_cases h4 : e.num ≤ 2147483647
        · have hr := Lib.hid (show entNo e = opNo e by unfold entNo okEnt opNo; rw [decide_eq_true h1, decide_eq_true h2, decide_eq_true h3, decide_eq_true h4]; rfl)
          go_enter Tryd.func41, Tryd.ntmps41
          go_wp2_with fail
          refine (icheck_any _ _ _ hl.out hwfh.out hkh.out).mono ?_
          rintro r w1 ⟨rfl, f1⟩
          go_wp2_with fail
          go_ret
          exact ⟨ret_i hr.out.symm, hfa.out.trans f1 (fun _ _ h => h)⟩
        · have hr := Lib.hid (show entNo e = 2 by unfold entNo okEnt; rw [decide_eq_false h4]; simp)
          go_enter Tryd.func41, Tryd.ntmps41
          go_wp2_with fail
          go_ret
          exact ⟨ret_i hr.out.symm, hfa.out⟩
      · have hr := Lib.hid (show entNo e = 2 by unfold entNo okEnt; rw [decide_eq_false h3]; simp)
        go_enter Tryd.func41, Tryd.ntmps41
        go_wp2_with fail
        go_ret
        exact ⟨ret_i hr.out.symm, hfa.out⟩
    · have hr := Lib.hid (show entNo e = 2 by unfold entNo okEnt; rw [decide_eq_false h2]; simp)
      go_enter Tryd.func41, Tryd.ntmps41
      go_wp2_with fail
      go_ret
      exact ⟨ret_i hr.out.symm, hfa.out⟩
  · have hr := Lib.hid (show entNo e = 2 by unfold entNo okEnt; rw [decide_eq_false h1]; simp)
    go_enter Tryd.func41, Tryd.ntmps41
    go_wp2_with fail
    go_ret
    exact ⟨ret_i hr.out.symm, hfa.out⟩

end Go.Proofs.YtmhicplhfbnpaaaDoor
