import Derived.Test.YtcgchngenbnhmaaRows
import Derived.Test.YtcgchngenbnhmaaCore
namespace Go.Proofs.Ytcgchngenbnhmaa
set_option linter.unusedVariables false
open Go.RowKit

/-- A clock at block b: its limit, and how many ticks have gone. -/
def Ck (w : World) (b : Nat) (l g : Int) : Prop := w.heap[b]? = some (.cells #[.int .i64 l, .int .i64 g] 41 (0, 0))
theorem Ck.cell0 {w : World} {b : Nat} {l g : Int} (h : Ck w b l g) : w.cell? ⟨b, 0, none⟩ = some (.int .i64 l) := cell_of_blk h rfl
theorem Ck.cell1 {w : World} {b : Nat} {l g : Int} (h : Ck w b l g) : w.cell? ⟨b, 1, none⟩ = some (.int .i64 g) := cell_of_blk h rfl
theorem Ck.free {w : World} {b : Nat} {l g : Int} (h : Ck w b l g) (o : Nat) : w.frozen? ⟨b, o, none⟩ = false := free_of_blk h
theorem Ck.lt {w : World} {b : Nat} {l g : Int} (h : Ck w b l g) : b < w.heap.size := lt_of_blk h
theorem Ck.keep {w w' : World} {b : Nat} {l g : Int} {S : Nat → Prop} (h : Ck w b l g) (k : Fr S w w') (hn : ¬ S b) : Ck w' b l g := k.blk h hn

set_option maxHeartbeats 400000 in
theorem none_any (b : Nat) (l : Int) (w : World) (hc : w.cell? ⟨b, 0, none⟩ = some (.int .i64 l)) :
    Calls Try.prog 20 #[.pointer (some ⟨b, 0, none⟩)] w fun e w' => e = .returned (.bool (l == 0)) ∧ w = w' := by
  go_enter Try.func20, Try.ntmps20
  go_wp2
  go_ret
  exact ⟨rfl, rfl⟩

/-- Tick's deferred closure: the result is set. -/
theorem late_deferred (r c b : Nat) (l g : Int) (x : Value) (w : World) (hr : w.cell? ⟨r, 0, none⟩ = some x) (hf : w.frozen? ⟨r, 0, none⟩ = false) (hp : w.cell? ⟨c, 0, none⟩ = some (.pointer (some ⟨b, 0, none⟩)))
    (hl : w.cell? ⟨b, 0, none⟩ = some (.int .i64 l)) (hg : w.cell? ⟨b, 1, none⟩ = some (.int .i64 g)) :
    CallsD Try.prog 21 #[.pointer (some ⟨c, 0, none⟩), .pointer (some ⟨r, 0, none⟩)] .returning w fun e u' w' => u' = .returning ∧ (e = .returned (.tuple #[]) ∧ w' = (w.setCell ⟨r, 0, none⟩ (.bool (g == l))).drew) := by
  go_enter_d Try.func21, Try.ntmps21
  go_wp2
  go_region
  go_end0
  exact ⟨rfl, rfl⟩

def tk (l g : Int) : Int := if g < l then g + 1 else g
theorem tk_bd {l g : Int} (h0 : 0 < l) (g0 : 0 ≤ g) (g1 : g ≤ l) : 0 ≤ tk l g ∧ tk l g ≤ l := by unfold tk; split <;> omega

set_option maxHeartbeats 400000 in
theorem tick_any (b : Nat) (l g : Int) (w : World) (h0 : 0 < l) (h1 : l ≤ 1000) (g0 : 0 ≤ g) (g1 : g ≤ l) (hk : Ck w b l g) :
    Calls Try.prog 10 #[.pointer (some ⟨b, 0, none⟩)] w fun e w' => e = .returned (.bool (tk l g == l)) ∧ Ck w' b l (tk l g) ∧ Fr (one b) w w' := by
  have hmf : ∀ (fn : Fn) (first cap : Array Value) (w : World), (Instr.makeFunc fn first cap).run Try.prog w = .ok (.func fn first cap) w := fun _ _ _ _ => rfl
  have hne : (l == 0) = false := by simp; omega
  have hb := hk.lt
  have hl := hk.cell0
  have hg := hk.cell1
  have hf := hk.free
  go_enter_defers Try.func10, Try.ntmps10
  go_wp2
  go_region
  all_goals go_wp2
  · have hlt : g < l := by assumption
    refine leaves_cons (f := 21) (args := #[.pointer (some ⟨w.heap.size, 0, none⟩), .pointer (some ⟨w.heap.size + 1, 0, none⟩)]) (by simp) (by simp [go_sem]) ?_
    refine (late_deferred _ _ b l (g + 1) (.bool false) _ ?_ ?_ ?_ ?_ ?_).mono ?_
    · simp [go_sem]
    · simp [go_sem]
    · simp [go_sem]
    · simp [go_sem, hb, hl]
    · simp [go_sem, hb, hg]
    rintro e u' w'' ⟨rfl, rfl, rfl⟩
    have e1 : tk l g = g + 1 := if_pos hlt
    rw [e1]
    simp [Leaves, settle, results, Try.results10, go_sem]
    refine ⟨?_, ?_⟩
    · unfold Ck
      (repeat (first | rw [blk_drew] | rw [blk_drewN] | rw [blk_set_at hk rfl] | rw [blk_alloc_old (by first | omega | (simp; done) | (simp; omega))] | rw [blk_set_other (by first | omega | (simp; done) | (simp; omega))] | rw [blk_alloc_new (by first | omega | (simp; done) | (simp; omega))]))
      rfl
    · (repeat (first | exact Fr.refl _ _ | assumption | apply Fr.drew | apply Fr.drewN | apply Fr.alloc | (refine Fr.setCell ?_ _ _ (by first | exact .inr rfl | (left; simp; done) | (left; simp; omega) | (right; simp [one, two]; done)))))
  · have hge : l ≤ g := by assumption
    refine leaves_cons (f := 21) (args := #[.pointer (some ⟨w.heap.size, 0, none⟩), .pointer (some ⟨w.heap.size + 1, 0, none⟩)]) (by simp) (by simp [go_sem]) ?_
    refine (late_deferred _ _ b l g (.bool false) _ ?_ ?_ ?_ ?_ ?_).mono ?_
    · simp [go_sem]
    · simp [go_sem]
    · simp [go_sem]
    · simp [go_sem, hb, hl]
    · simp [go_sem, hb, hg]
    rintro e u' w'' ⟨rfl, rfl, rfl⟩
    have e1 : tk l g = g := if_neg (by omega)
    rw [e1]
    simp [Leaves, settle, results, Try.results10, go_sem]
    refine ⟨?_, ?_⟩
    · unfold Ck
      (repeat (first | rw [blk_drew] | rw [blk_drewN] | rw [blk_alloc_old (by first | omega | (simp; done) | (simp; omega))] | rw [blk_set_other (by first | omega | (simp; done) | (simp; omega))] | rw [blk_alloc_new (by first | omega | (simp; done) | (simp; omega))]))
      exact hk
    · (repeat (first | exact Fr.refl _ _ | assumption | apply Fr.drew | apply Fr.drewN | apply Fr.alloc | (refine Fr.setCell ?_ _ _ (by first | exact .inr rfl | (left; simp; done) | (left; simp; omega) | (right; simp [one, two]; done)))))

/-- A clock that is none. -/
theorem none_nil (w : World) : Calls Try.prog 20 #[.pointer none] w fun e w' => e = .returned (.bool true) ∧ w = w' := by
  go_enter Try.func20, Try.ntmps20
  go_wp2
  go_ret
  exact ⟨rfl, rfl⟩

theorem reset_any (b : Nat) (l g : Int) (w : World) (h0 : 0 < l) (hk : Ck w b l g) :
    Calls Try.prog 11 #[.pointer (some ⟨b, 0, none⟩)] w fun e w' => e = .returned (.tuple #[]) ∧ Ck w' b l 0 ∧ Fr (one b) w w' := by
  have hne : (l == 0) = false := by simp; omega
  have hb := hk.lt
  have hl := hk.cell0
  have hg := hk.cell1
  have hf := hk.free
  go_enter Try.func11, Try.ntmps11
  go_wp2
  go_end0
  refine ⟨rfl, ?_, (Fr.refl _ _).setCell _ _ (.inr rfl)⟩
  unfold Ck
  rw [blk_set_at hk rfl]
  rfl

theorem left_q (b : Nat) (l g : Int) (w : World) (h0 : 0 < l) (h1 : l ≤ 1000) (g0 : 0 ≤ g) (g1 : g ≤ l) (hk : Ck w b l g) :
    Calls Try.prog 12 #[.pointer (some ⟨b, 0, none⟩)] w fun e w' => e = .returned (.int .i64 (l - g)) ∧ ∃ n, w' = w.drewN n := by
  have hne : (l == 0) = false := by simp; omega
  have hb := hk.lt
  have hl := hk.cell0
  have hg := hk.cell1
  go_enter Try.func12, Try.ntmps12
  go_wp2
  go_quiet (fail)
  go_wp2
  go_ret
  exact ⟨rfl, _, rfl⟩

theorem left_any (b : Nat) (l g : Int) (w : World) (h0 : 0 < l) (h1 : l ≤ 1000) (g0 : 0 ≤ g) (g1 : g ≤ l) (hk : Ck w b l g) :
    Calls Try.prog 12 #[.pointer (some ⟨b, 0, none⟩)] w fun e w' => e = .returned (.int .i64 (l - g)) ∧ Fr none' w w' := by
  refine (left_q b l g w h0 h1 g0 g1 hk).mono ?_
  rintro e w' ⟨rfl, n, rfl⟩
  exact ⟨rfl, (Fr.refl _ _).drewN n⟩

theorem limit_any (b : Nat) (l g : Int) (w : World) (h0 : 0 < l) (hk : Ck w b l g) :
    Calls Try.prog 18 #[.pointer (some ⟨b, 0, none⟩)] w fun e w' => e = .returned (.int .i64 l) ∧ w = w' := by
  have hne : (l == 0) = false := by simp; omega
  have hl := hk.cell0
  go_enter Try.func18, Try.ntmps18
  go_wp2
  go_ret
  exact ⟨rfl, rfl⟩

/-- New: a limit that may be. -/
theorem new_ok (l : Int) (w : World) (h0 : 1 ≤ l) (h1 : l ≤ 1000) :
    Calls Try.prog 9 #[.int .i64 l] w fun e w' => e = .returned (.tuple #[.pointer (some ⟨w.heap.size, 0, none⟩), .int .i64 0]) ∧ Ck w' w.heap.size l 0 ∧ Fr none' w w' := by
  go_enter Try.func9, Try.ntmps9
  go_wp2
  go_ret2
  exact ⟨rfl, blk_alloc_new rfl, (Fr.refl _ _).alloc _⟩

theorem new_no (l : Int) (w : World) (h : l < 1 ∨ 1000 < l) :
    Calls Try.prog 9 #[.int .i64 l] w fun e w' => e = .returned (.tuple #[.pointer none, .int .i64 2]) ∧ w = w' := by
  rcases h with h | h
  · go_enter Try.func9, Try.ntmps9
    go_wp2
    go_ret2
    exact ⟨rfl, rfl⟩
  · have h' : ¬ l < 1 := by omega
    go_enter Try.func9, Try.ntmps9
    go_wp2
    go_ret2
    exact ⟨rfl, rfl⟩


theorem tmod_facts (i n : Int) (h0 : 1 ≤ n) : -n < i.tmod n ∧ i.tmod n < n ∧ (i.tmod n < 0 → i % n = i.tmod n + n) ∧ (0 ≤ i.tmod n → i % n = i.tmod n) := by
  have h1 := Int.tmod_eq_emod (a := i) (b := n)
  have h2 := Int.emod_nonneg i (show n ≠ 0 by omega)
  have h3 := Int.emod_lt_of_pos i (show 0 < n by omega)
  have h4 : (n.natAbs : Int) = n := by omega
  split at h1
  · refine ⟨by omega, by omega, by omega, by omega⟩
  · refine ⟨by omega, by omega, by omega, by omega⟩

theorem bring_any (i n : Int) (w : World) (h0 : 1 ≤ n) (h1 : n ≤ 9223372036854775807) :
    Calls Try.prog 8 #[.int .i64 i, .int .i64 n] w fun e w' => e = .returned (.int .i64 (i % n)) ∧ w = w' := by
  obtain ⟨t1, t2, t3, t4⟩ := tmod_facts i n h0
  go_enter Try.func8, Try.ntmps8
  go_wp2
  all_goals go_ret
  all_goals refine ⟨?_, rfl⟩
  · exact congrArg _ (congrArg (Value.int .i64) (t3 ‹_›).symm)
  · exact congrArg _ (congrArg (Value.int .i64) (t4 ‹_›).symm)

end Go.Proofs.Ytcgchngenbnhmaa
