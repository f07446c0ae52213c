/-
  The statements' walks: ClockKnown.
-/
import Derived.Test.YtcgchngenbnhmaaC
import Derived.Test.YtcgchngenbnhmaaLateW
namespace Go.Proofs.Ytcgchngenbnhmaa
set_option linter.unusedVariables false
open Go.RowKit

/-! ### A clock that is none: nil, or of zeros. -/
/-- nil, or the address of a clock of zeros. -/
def NoCk (w : World) (p : Option Addr) : Prop := p = none ∨ ∃ b, p = some ⟨b, 0, none⟩ ∧ Ck w b 0 0

theorem none_no {w : World} {p : Option Addr} (h : NoCk w p) : Calls Try.prog 20 #[.pointer p] w fun e w' => e = .returned (.bool true) ∧ w = w' := by
  rcases h with rfl | ⟨b, rfl, hk⟩
  · exact none_nil w
  · exact none_any b 0 w hk.cell0

theorem reset_no {w : World} {p : Option Addr} (h : NoCk w p) : Calls Try.prog 11 #[.pointer p] w fun e w' => e = .returned (.tuple #[]) ∧ w = w' := by
  go_enter Try.func11, Try.ntmps11
  go_wp2_with fail
  refine (none_no h).mono ?_
  rintro e w' ⟨rfl, rfl⟩
  go_wp2_with fail
  go_end0
  exact ⟨rfl, rfl⟩

theorem left_no {w : World} {p : Option Addr} (h : NoCk w p) : Calls Try.prog 12 #[.pointer p] w fun e w' => e = .returned (.int .i64 0) ∧ w = w' := by
  go_enter Try.func12, Try.ntmps12
  go_wp2_with fail
  refine (none_no h).mono ?_
  rintro e w' ⟨rfl, rfl⟩
  go_wp2_with fail
  go_ret
  exact ⟨rfl, rfl⟩

theorem limit_no {w : World} {p : Option Addr} (h : NoCk w p) : Calls Try.prog 18 #[.pointer p] w fun e w' => e = .returned (.int .i64 0) ∧ w = w' := by
  go_enter Try.func18, Try.ntmps18
  go_wp2_with fail
  refine (none_no h).mono ?_
  rintro e w' ⟨rfl, rfl⟩
  go_wp2_with fail
  go_ret
  exact ⟨rfl, rfl⟩

theorem NoCk.keep {w w' : World} {p : Option Addr} (h : NoCk w p) (k : Fr none' w w') : NoCk w' p := by
  rcases h with rfl | ⟨b, rfl, hk⟩
  · exact .inl rfl
  · exact .inr ⟨b, rfl, hk.keep k id⟩

theorem tick_no {w : World} {p : Option Addr} (h : NoCk w p) : Calls Try.prog 10 #[.pointer p] w fun e w' => e = .returned (.bool false) ∧ Fr none' w w' := by
  go_enter_defers Try.func10, Try.ntmps10
  go_wp2_with fail
  refine (none_no (h.keep ?_)).mono ?_
  · (repeat (first | exact Fr.refl _ _ | assumption | apply Fr.drew | apply Fr.drewN | apply Fr.alloc | (refine Fr.setCell ?_ _ _ (by first | exact .inr rfl | (left; simp; done) | (left; simp; omega) | (right; simp [one, two]; done)))))
  rintro e w' ⟨rfl, rfl⟩
  go_wp2_with fail
  simp [bodyPostD, Leaves, results, Try.results10, go_sem]
  (repeat (first | exact Fr.refl _ _ | assumption | apply Fr.drew | apply Fr.drewN | apply Fr.alloc | (refine Fr.setCell ?_ _ _ (by first | exact .inr rfl | (left; simp; done) | (left; simp; omega) | (right; simp [one, two]; done)))))


def ends : Array Value := #[.int .i64 (-9223372036854775808), .int .i64 (-1), .int .i64 0, .int .i64 1, .int .i64 2, .int .i64 3, .int .i64 1000, .int .i64 1001, .int .i64 9223372036854775807]
def calls : Array Value := #[.bool true, .bool true, .bool false, .bool true, .bool true, .bool true, .bool true, .bool false, .bool false, .bool true]

theorem ends_int (k : Nat) (h : k < 9) : ∃ x, ends[k]? = some (.int .i64 x) := by
  match k, h with
  | 0, _ | 1, _ | 2, _ | 3, _ | 4, _ | 5, _ | 6, _ | 7, _ | 8, _ => exact ⟨_, rfl⟩
theorem calls_bool : ∃ f : Nat → Bool, ∀ k, k < 10 → calls[k]? = some (.bool (f k)) := by
  refine ⟨fun k => match calls[k]? with | some (.bool b) => b | _ => false, fun k h => ?_⟩
  match k, h with
  | 0, _ | 1, _ | 2, _ | 3, _ | 4, _ | 5, _ | 6, _ | 7, _ | 8, _ | 9, _ => rfl

set_option maxRecDepth 100000 in
set_option maxHeartbeats 1000000 in
theorem known_walk (W : World) : Calls Try.prog 7 #[] W fun e w' => e = .returned (.bool true) ∧ Below W.heap.size W w' := by
  obtain ⟨fc, hfc⟩ := calls_bool
  have hfc' := Lib.hid hfc
  clear hfc
  go_enter Try.func7, Try.ntmps7
  go_wp2_with fail
  obtain ⟨w0, hw0⟩ : ∃ w0, w0 = (W.alloc (Obj.cells ends 3)).alloc (Obj.cells calls 4) := ⟨_, rfl⟩
  have e0 : w0.heap[W.heap.size]? = some (.cells ends 3 (0, 0)) := by rw [hw0]; (repeat (first | rw [blk_drew] | rw [blk_drewN] | rw [blk_alloc_old (by first | omega | (simp; done) | (simp; omega))] | rw [blk_set_other (by first | omega | (simp; done) | (simp; omega))] | rw [blk_alloc_new (by first | omega | (simp; done) | (simp; omega))]))
  have c0 : w0.heap[W.heap.size + 1]? = some (.cells calls 4 (0, 0)) := by rw [hw0]; (repeat (first | rw [blk_drew] | rw [blk_drewN] | rw [blk_alloc_old (by first | omega | (simp; done) | (simp; omega))] | rw [blk_set_other (by first | omega | (simp; done) | (simp; omega))] | rw [blk_alloc_new (by first | omega | (simp; done) | (simp; omega))]))
  have F0 : Fr none' W w0 := by rw [hw0]; (repeat (first | exact Fr.refl _ _ | assumption | apply Fr.drew | apply Fr.drewN | apply Fr.alloc | (refine Fr.setCell ?_ _ _ (by first | exact .inr rfl | (left; simp; done) | (left; simp; omega) | (right; simp [one, two]; done)))))
  have B0 : Below W.heap.size W w0 := F0.below (Nat.le_refl _) (fun _ h => h.elim)
  unfold ends calls at hw0
  rw [← hw0]
  clear hw0 F0
  go_loopw [3] (fun i wr => ∃ k : Nat, i = .int .i64 k ∧ k ≤ 9 ∧ wr.heap[W.heap.size]? = some (.cells ends 3 (0, 0)) ∧ wr.heap[W.heap.size + 1]? = some (.cells calls 4 (0, 0)) ∧ Below W.heap.size W wr) (fun i _ => 9 - (intOf i).toNat)
  case atStart => exact ⟨0, rfl, by omega, e0, c0, B0⟩
  case round =>
    obtain ⟨k, rfl, hk, er, cr, br⟩ := hrel
    clear e0 c0 B0
    by_cases hlt : k < 9
    · obtain ⟨x, hx⟩ := ends_int k hlt
      have cx := cell_of_blk er hx
      have cl : BoolsAt wr (some ⟨W.heap.size + 1, 0, none⟩) 10 fc := fun _ _ => ⟨_, _, rfl, lt_of_blk cr, fun j hj => cell_of_blk (o := 0 + j) cr (by rw [Nat.zero_add]; exact hfc'.out j hj)⟩
      have cl' := Lib.hid cl
      clear cl hx
      go_wp2_with fail
      refine (plays_walk x _ 10 10 fc wr cl'.out (by omega)).mono ?_
      rintro e w1 ⟨rfl, b1⟩
      have f1 := Fr.of_below b1
      have cx1 := cell_of_blk (o := k) (f1.blk er id) (ends_int k hlt).choose_spec
      go_wp2_with fail
      refine (plays_walk _ none 0 0 (fun _ => false) w1 (fun k hk => absurd hk (by omega)) (by omega)).mono ?_
      rintro e w2 ⟨rfl, b2⟩
      have f2 := f1.trans (Fr.of_below b2) (fun _ _ h => h)
      have er2 := f2.blk er id
      have cr2 := f2.blk cr id
      have br2 : Below W.heap.size W w2 := br.trans (f2.below br.size (fun _ h => h.elim))
      clear er cr br f1 f2 b1 b2 cx cx1
      go_wp2_with fail
      go_roundw
      case rel => exact ⟨k + 1, by go_num, by omega, er2, cr2, br2⟩
      case measure => simp [intOf]; omega
    · go_wp2_with fail
      refine wp_loop_rounds 3 ?_
      rw [rounds_succ]
      go_wp2_with fail
      refine (reset_no (.inl rfl)).mono ?_
      rintro e w' ⟨rfl, rfl⟩
      go_wp2_with fail
      refine (tick_no (.inl rfl)).mono ?_
      rintro e w1 ⟨rfl, f1⟩
      go_wp2_with fail
      refine (left_no (.inl rfl)).mono ?_
      rintro e w' ⟨rfl, rfl⟩
      go_wp2_with fail
      refine (limit_no (.inl rfl)).mono ?_
      rintro e w' ⟨rfl, rfl⟩
      go_wp2_with fail
      rw [rounds_succ]
      have n2 : NoCk (w1.alloc (Obj.cells #[.int .i64 0, .int .i64 0] 41)) (some ⟨w1.heap.size, 0, none⟩) := .inr ⟨_, rfl, by unfold Ck; (repeat (first | rw [blk_drew] | rw [blk_drewN] | rw [blk_alloc_old (by first | omega | (simp; done) | (simp; omega))] | rw [blk_set_other (by first | omega | (simp; done) | (simp; omega))] | rw [blk_alloc_new (by first | omega | (simp; done) | (simp; omega))]))⟩
      go_wp2_with fail
      refine (reset_no n2).mono ?_
      rintro e w' ⟨rfl, rfl⟩
      go_wp2_with fail
      refine (tick_no n2).mono ?_
      rintro e w2 ⟨rfl, f2⟩
      have n3 := n2.keep f2
      go_wp2_with fail
      refine (left_no n3).mono ?_
      rintro e w' ⟨rfl, rfl⟩
      go_wp2_with fail
      refine (limit_no n3).mono ?_
      rintro e w' ⟨rfl, rfl⟩
      go_wp2_with fail
      rw [rounds_succ]
      go_wp2_with fail
      refine (works_any _).mono ?_
      rintro e w3 ⟨rfl, f3⟩
      go_wp2_with fail
      have g4 : Fr none' w3 (w3.alloc (Obj.cells #[.int .i64 10, .int .i64 0, .int .i64 10] 3)) := by (repeat (first | exact Fr.refl _ _ | assumption | apply Fr.drew | apply Fr.drewN | apply Fr.alloc | (refine Fr.setCell ?_ _ _ (by first | exact .inr rfl | (left; simp; done) | (left; simp; omega) | (right; simp [one, two]; done)))))
      refine (late_walk 0 _ 3 3 (three 10 0 10) _ (ints_three (blk_alloc_new rfl) (by omega) (by omega) (by omega)) (by omega)).mono ?_
      rintro e w4 ⟨rfl, b4⟩
      have h4 := Fr.of_below b4
      clear b4
      go_wp2_with fail
      have g5 : Fr none' w4 (w4.alloc (Obj.cells #[.int .i64 1999, .int .i64 999, .int .i64 1000] 3)) := by (repeat (first | exact Fr.refl _ _ | assumption | apply Fr.drew | apply Fr.drewN | apply Fr.alloc | (refine Fr.setCell ?_ _ _ (by first | exact .inr rfl | (left; simp; done) | (left; simp; omega) | (right; simp [one, two]; done)))))
      refine (late_walk 999 _ 3 3 (three 1999 999 1000) _ (ints_three (blk_alloc_new rfl) (by omega) (by omega) (by omega)) (by omega)).mono ?_
      rintro e w5 ⟨rfl, b5⟩
      have h5 := Fr.of_below b5
      clear b5
      go_wp2_with fail
      go_ret
      have G : Fr none' wr w5 := ((((((f1.alloc _).trans f2 (fun _ _ h => h)).alloc _).trans f3 (fun _ _ h => h)).trans (g4.trans h4 (fun _ _ h => h)) (fun _ _ h => h)).trans (g5.trans h5 (fun _ _ h => h)) (fun _ _ h => h))
      exact ⟨rfl, br.trans (G.below br.size (fun _ h => h.elim))⟩

end Go.Proofs.Ytcgchngenbnhmaa
