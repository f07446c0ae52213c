/-
  The reference's clock (gimbalref19), function by function.
-/
import Derived.Test.YtcgchngenbnhmaaA
namespace Go.Proofs.Ytcgchngenbnhmaa
set_option linter.unusedVariables false
open Go.RowKit

/-- The reference's clock at block b. -/
def Rk (w : World) (b : Nat) (l g : Int) : Prop := w.heap[b]? = some (.cells #[.int .i64 l, .int .i64 g] 43 (0, 0))
theorem Rk.cell0 {w : World} {b : Nat} {l g : Int} (h : Rk w b l g) : w.cell? ⟨b, 0, none⟩ = some (.int .i64 l) := cell_of_blk h rfl
theorem Rk.cell1 {w : World} {b : Nat} {l g : Int} (h : Rk w b l g) : w.cell? ⟨b, 1, none⟩ = some (.int .i64 g) := cell_of_blk h rfl
theorem Rk.free {w : World} {b : Nat} {l g : Int} (h : Rk w b l g) (o : Nat) : w.frozen? ⟨b, o, none⟩ = false := free_of_blk h
theorem Rk.lt {w : World} {b : Nat} {l g : Int} (h : Rk w b l g) : b < w.heap.size := lt_of_blk h
theorem Rk.keep {w w' : World} {b : Nat} {l g : Int} {S : Nat → Prop} (h : Rk w b l g) (k : Fr S w w') (hn : ¬ S b) : Rk w' b l g := k.blk h hn

theorem rnew_ok (l : Int) (w : World) (h0 : 1 ≤ l) (h1 : l ≤ 1000) :
    Calls Try.prog 14 #[.int .i64 l] w fun e w' => e = .returned (.tuple #[.pointer (some ⟨w.heap.size, 0, none⟩), .int .i64 0]) ∧ Rk w' w.heap.size l 0 ∧ Fr none' w w' := by
  go_enter Try.func14, Try.ntmps14
  go_wp2
  go_ret2
  exact ⟨rfl, blk_alloc_new rfl, (Fr.refl _ _).alloc _⟩

theorem rnew_no (l : Int) (w : World) (h : l < 1 ∨ 1000 < l) :
    Calls Try.prog 14 #[.int .i64 l] w fun e w' => e = .returned (.tuple #[.pointer none, .int .i64 2]) ∧ w = w' := by
  rcases h with h | h
  · go_enter Try.func14, Try.ntmps14
    go_wp2
    go_ret2
    exact ⟨rfl, rfl⟩
  · have h' : ¬ l < 1 := by omega
    go_enter Try.func14, Try.ntmps14
    go_wp2
    go_ret2
    exact ⟨rfl, rfl⟩

theorem rtick_any (b : Nat) (l g : Int) (w : World) (h0 : 0 < l) (h1 : l ≤ 1000) (g0 : 0 ≤ g) (g1 : g ≤ l) (hk : Rk w b l g) :
    Calls Try.prog 15 #[.pointer (some ⟨b, 0, none⟩)] w fun e w' => e = .returned (.bool (tk l g == l)) ∧ Rk w' b l (tk l g) ∧ Fr (one b) w w' := by
  have hb := hk.lt
  have hl := hk.cell0
  have hg := hk.cell1
  have hf := hk.free
  go_enter Try.func15, Try.ntmps15
  go_wp2
  go_region
  all_goals go_wp2
  all_goals go_region
  all_goals go_wp2
  all_goals go_ret
  · have e1 : tk l g = l := by unfold tk; split <;> omega
    rw [e1]
    refine ⟨by simp, ?_, by (repeat (first | exact Fr.refl _ _ | assumption | apply Fr.drew | apply Fr.drewN | apply Fr.alloc | (refine Fr.setCell ?_ _ _ (by first | exact .inr rfl | (left; simp; done) | (left; simp; omega) | (right; simp [one, two]; done)))))⟩
    unfold Rk
    (repeat (first | rw [blk_drew] | rw [blk_drewN] | rw [blk_set_at hk rfl] | rw [blk_alloc_old (by first | omega | (simp; done) | (simp; omega))] | rw [blk_set_other (by first | omega | (simp; done) | (simp; omega))] | rw [blk_alloc_new (by first | omega | (simp; done) | (simp; omega))]))
    rfl
  · have e1 : tk l g = g + 1 := by unfold tk; split <;> omega
    rw [e1]
    refine ⟨rfl, ?_, by (repeat (first | exact Fr.refl _ _ | assumption | apply Fr.drew | apply Fr.drewN | apply Fr.alloc | (refine Fr.setCell ?_ _ _ (by first | exact .inr rfl | (left; simp; done) | (left; simp; omega) | (right; simp [one, two]; done)))))⟩
    unfold Rk
    (repeat (first | rw [blk_drew] | rw [blk_drewN] | rw [blk_set_at hk rfl] | rw [blk_alloc_old (by first | omega | (simp; done) | (simp; omega))] | rw [blk_set_other (by first | omega | (simp; done) | (simp; omega))] | rw [blk_alloc_new (by first | omega | (simp; done) | (simp; omega))]))
    rfl

theorem rreset_any (b : Nat) (l g : Int) (w : World) (hk : Rk w b l g) :
    Calls Try.prog 16 #[.pointer (some ⟨b, 0, none⟩)] w fun e w' => e = .returned (.tuple #[]) ∧ Rk w' b l 0 ∧ Fr (one b) w w' := by
  have hb := hk.lt
  have hg := hk.cell1
  have hf := hk.free
  go_enter Try.func16, Try.ntmps16
  go_wp2
  go_end0
  refine ⟨rfl, ?_, (Fr.refl _ _).setCell _ _ (.inr rfl)⟩
  unfold Rk
  rw [blk_set_at hk rfl]
  rfl

theorem rleft_q (b : Nat) (l g : Int) (w : World) (h0 : 0 < l) (h1 : l ≤ 1000) (g0 : 0 ≤ g) (g1 : g ≤ l) (hk : Rk w b l g) :
    Calls Try.prog 17 #[.pointer (some ⟨b, 0, none⟩)] w fun e w' => e = .returned (.int .i64 (l - g)) ∧ ∃ n, w' = w.drewN n := by
  have hl := hk.cell0
  have hg := hk.cell1
  go_enter Try.func17, Try.ntmps17
  go_wp2
  go_quiet (fail)
  go_wp2
  go_ret
  exact ⟨rfl, _, rfl⟩

theorem rleft_any (b : Nat) (l g : Int) (w : World) (h0 : 0 < l) (h1 : l ≤ 1000) (g0 : 0 ≤ g) (g1 : g ≤ l) (hk : Rk w b l g) :
    Calls Try.prog 17 #[.pointer (some ⟨b, 0, none⟩)] w fun e w' => e = .returned (.int .i64 (l - g)) ∧ Fr none' w w' := by
  refine (rleft_q b l g w h0 h1 g0 g1 hk).mono ?_
  rintro e w' ⟨rfl, n, rfl⟩
  exact ⟨rfl, (Fr.refl _ _).drewN n⟩

theorem rlimit_any (b : Nat) (l g : Int) (w : World) (hk : Rk w b l g) :
    Calls Try.prog 19 #[.pointer (some ⟨b, 0, none⟩)] w fun e w' => e = .returned (.int .i64 l) ∧ w = w' := by
  have hl := hk.cell0
  go_enter Try.func19, Try.ntmps19
  go_wp2
  go_ret
  exact ⟨rfl, rfl⟩


/-- Bring, its answer under a name. -/
theorem bring_ex (i n : Int) (w : World) (h0 : 1 ≤ n) (h1 : n ≤ 9223372036854775807) :
    Calls Try.prog 8 #[.int .i64 i, .int .i64 n] w fun e w' => ∃ m, e = .returned (.int .i64 m) ∧ 0 ≤ m ∧ m < n ∧ Hid (m = i % n) ∧ w = w' := by
  refine (bring_any i n w h0 h1).mono ?_
  rintro e w' ⟨rfl, rfl⟩
  exact ⟨_, rfl, Int.emod_nonneg i (by omega), Int.emod_lt_of_pos i (by omega), rfl, rfl⟩

/-- New, its place under a name. -/
theorem new_ex (l : Int) (w : World) (h0 : 1 ≤ l) (h1 : l ≤ 1000) :
    Calls Try.prog 9 #[.int .i64 l] w fun e w' => ∃ b, e = .returned (.tuple #[.pointer (some ⟨b, 0, none⟩), .int .i64 0]) ∧ w.heap.size ≤ b ∧ Ck w' b l 0 ∧ Fr none' w w' := by
  refine (new_ok l w h0 h1).mono ?_
  rintro e w' ⟨rfl, h2, h3⟩
  exact ⟨_, rfl, Nat.le_refl _, h2, h3⟩

/-- Tick, where all numbers are known. -/
theorem tick_to {b : Nat} {l g : Int} {w : World} (hk : Ck w b l g) (g' : Int) (late : Bool) (h : 0 < l ∧ l ≤ 1000 ∧ 0 ≤ g ∧ g ≤ l ∧ tk l g = g' ∧ (g' == l) = late) :
    Calls Try.prog 10 #[.pointer (some ⟨b, 0, none⟩)] w fun e w' => e = .returned (.bool late) ∧ Ck w' b l g' ∧ Fr (one b) w w' := by
  obtain ⟨h0, h1, h2, h3, h4, h5⟩ := h
  have := tick_any b l g w h0 h1 h2 h3 hk
  rw [h4, h5] at this
  exact this

theorem works_any (w : World) : Calls Try.prog 13 #[] w fun e w' => e = .returned (.bool true) ∧ Fr none' w w' := by
  go_enter Try.func13, Try.ntmps13
  go_wp2_with fail
  refine (new_ok 3 _ (by omega) (by omega)).mono ?_
  rintro e w1 ⟨rfl, k1, f1⟩
  go_wp2_with fail
  refine (new_no 0 _ (by omega)).mono ?_
  rintro e w' ⟨rfl, rfl⟩
  go_wp2_with fail
  refine (new_no 1001 _ (by omega)).mono ?_
  rintro e w' ⟨rfl, rfl⟩
  go_wp2_with fail
  refine (tick_to k1 1 false (by decide)).mono ?_
  rintro e w2 ⟨rfl, k2, f2⟩
  go_wp2_with fail
  refine (tick_to k2 2 false (by decide)).mono ?_
  rintro e w3 ⟨rfl, k3, f3⟩
  go_wp2_with fail
  refine (left_any _ _ _ _ (by decide) (by decide) (by decide) (by decide) k3).mono ?_
  rintro e w4 ⟨rfl, f4⟩
  go_wp2_with fail
  have k4 := k3.keep f4 id
  refine (tick_to k4 3 true (by decide)).mono ?_
  rintro e w5 ⟨rfl, k5, f5⟩
  go_wp2_with fail
  refine (tick_to k5 3 true (by decide)).mono ?_
  rintro e w6 ⟨rfl, k6, f6⟩
  go_wp2_with fail
  refine (left_any _ _ _ _ (by decide) (by decide) (by decide) (by decide) k6).mono ?_
  rintro e w7 ⟨rfl, f7⟩
  go_wp2_with fail
  have k7 := k6.keep f7 id
  refine (reset_any _ _ _ _ (by decide) k7).mono ?_
  rintro e w8 ⟨rfl, k8, f8⟩
  go_wp2_with fail
  refine (left_any _ _ _ _ (by decide) (by decide) (by decide) (by decide) k8).mono ?_
  rintro e w9 ⟨rfl, f9⟩
  go_wp2_with fail
  go_ret
  refine ⟨rfl, ?_⟩
  have s1 := f1.size
  have u : ∀ i, i < w1.heap.size → none' i → one w.heap.size i := fun _ _ h => h.elim
  have F : Fr (one w.heap.size) w1 w9 := ((((((f2.trans f3 (fun _ _ h => h)).trans f4 u).trans f5 (fun _ _ h => h)).trans f6 (fun _ _ h => h)).trans f7 u).trans f8 (fun _ _ h => h)).trans f9 u
  exact f1.trans F (fun i hi h => by cases h; omega)

end Go.Proofs.Ytcgchngenbnhmaa
