/-
  Small helpers: gimbalref00's and slices.Clone, function by function.
-/
import Derived.Test.YtnflppgmccddoaaRows
import Derived.Test.YtnflppgmccddoaaSl
namespace Go.Proofs.Ytnflppgmccddoaa
set_option linter.unusedVariables false
open Go.RowKit

theorem Try.info5 : (Try.prog.info? 5).map (fun i => (i.zero, i.size, i.bytes)) = some (some (.int .u8 0), 1, 1) := by kernel_rfl

theorem tmod_facts (i n : Int) (h0 : 1 ≤ n) : -n < i.tmod n ∧ i.tmod n < n ∧ (i.tmod n < 0 → i % n = i.tmod n + n) ∧ (0 ≤ i.tmod n → i % n = i.tmod n) := by
  have h1 := Int.tmod_eq_emod (a := i) (b := n)
  have h2 := Int.emod_nonneg i (show n ≠ 0 by omega)
  have h3 := Int.emod_lt_of_pos i (show 0 < n by omega)
  have h4 : (n.natAbs : Int) = n := by omega
  split at h1
  · refine ⟨by omega, by omega, by omega, by omega⟩
  · refine ⟨by omega, by omega, by omega, by omega⟩

theorem bring_ex (i n : Int) (w : World) (h0 : 1 ≤ n) (h1 : n ≤ 9223372036854775807) :
    Calls Try.prog 16 #[.int .i64 i, .int .i64 n] w fun e w' => ∃ m, e = .returned (.int .i64 m) ∧ 0 ≤ m ∧ m < n ∧ Hid (m = i % n) ∧ w = w' := by
  obtain ⟨t1, t2, t3, t4⟩ := tmod_facts i n h0
  have g0 : 0 ≤ i % n := Int.emod_nonneg i (by omega)
  have g1 : i % n < n := Int.emod_lt_of_pos i (by omega)
  have fin : ∀ (m : Int) (w' : World), i % n = m → w = w' → ∃ m', Ending.returned (.int .i64 m) = .returned (.int .i64 m') ∧ 0 ≤ m' ∧ m' < n ∧ Hid (m' = i % n) ∧ w = w' := fun m w' h h' => ⟨m, rfl, by omega, by omega, h.symm, h'⟩
  have fin' := Lib.hid fin
  have t3' := Lib.hid t3
  have t4' := Lib.hid t4
  clear t3 t4 fin
  go_enter Try.func16, Try.ntmps16
  go_wp2
  all_goals go_ret
  · exact fin'.out _ _ (t3'.out ‹_›) rfl
  · exact fin'.out _ _ (t4'.out ‹_›) rfl

theorem bring_q (i n : Int) (w : World) (h0 : 1 ≤ n) (h1 : n ≤ 9223372036854775807) :
    Calls Try.prog 16 #[.int .i64 i, .int .i64 n] w fun e w' => e = .returned (.int .i64 (i % n)) ∧ w' = w := by
  refine (bring_ex i n w h0 h1).mono ?_
  rintro e w' ⟨m, rfl, _, _, h, rfl⟩
  exact ⟨by rw [h.out], rfl⟩

set_option maxHeartbeats 400000 in
theorem copyBytes_any (v : Value) (L : List UInt8) (w : World) (h : Bytes w v L) (hL : L.length ≤ 140737488355328) :
    Calls Try.prog 25 #[v] w fun e w' => ∃ v', e = .returned v' ∧ w'.ownsRow w.heap.size 5 1 v' L.length (byt L) ∧ Fr none' w w' ∧ (L = [] → v' = .slice none 0 0) := by
  obtain ⟨i0, hi, hz0, hz1, hz2⟩ := info_parts Try.info5
  go_enter Try.func25, Try.ntmps25
  go_wp2_with (at_builtin; refine wpList_app_fresh rfl (.tmp 4) (.tmp 5) 27 rfl 5 i0 (.int .u8 0) Try.underlying27 hi hz0 hz1 rfl none rfl (.inl rfl) w.heap.size (Nat.le_refl _) (fun g h => by cases h) v rfl h (byt_one L) (by omega) (by rw [hz2]; omega) ?_; intro v' w' ho hf hnil)
  go_ret
  exact ⟨v', rfl, ho, hf, fun h => hnil (by first | trivial | rfl) (by rw [h]; rfl)⟩

set_option maxHeartbeats 400000 in
theorem clone_any (v : Value) (L : List UInt8) (w : World) (h : Bytes w v L) (hL : L.length ≤ 140737488355328) :
    Calls Try.prog 38 #[v] w fun e w' => ∃ v', e = .returned v' ∧ w'.ownsRow w.heap.size 5 1 v' L.length (byt L) ∧ Fr none' w w' := by
  obtain ⟨i0, hi, hz0, hz1, hz2⟩ := info_parts Try.info5
  have qT : ∀ (w : World) (a : Option Addr) (n c n' c' : Nat), (binOp .eql 27 (.slice a n c) (.slice none n' c')).run Try.prog w = .ok (.bool a.isNone) w := fun w a n c n' c' => Lib.run_eql_slice_nil w _ _ a n c n' c' Try.underlying27
  have h' := h
  obtain ⟨ao, cap, rfl, hn, hl, h3, h4⟩ := h'
  cases ao with
  | none =>
    have h0 : L = [] := List.eq_nil_of_length_eq_zero (by have := h3 rfl; omega)
    subst h0
    go_enter Try.func38, Try.ntmps38
    go_wp2_with fail
    go_ret
    exact ⟨_, rfl, World.ownsRow_nil _ _ _ _, Fr.refl _ _⟩
  | some ad =>
    clear h3 h4 hl
    have ha : Fr none' w (w.alloc (Obj.cells #[] 5)) := (Fr.refl _ _).alloc _
    have hh : Bytes (w.alloc (Obj.cells #[] 5)) (Value.slice (some ad) L.length cap) L := h.keep0 ha
    have hg : (w.alloc (Obj.cells #[] 5)).heap[w.heap.size]? = some (.cells #[] 5 (0, 0)) := blk_alloc_new rfl
    have hg' := Lib.hid hg
    have ha' := Lib.hid ha
    clear hg ha h
    go_enter Try.func38, Try.ntmps38
    go_wp2_with (at_builtin; refine wpList_app_fresh rfl (.tmp 5) (.tmp 6) 27 rfl 5 i0 (.int .u8 0) Try.underlying27 hi hz0 hz1 rfl (some ⟨w.heap.size, 0, none⟩) rfl (.inr ⟨_, rfl, hg'.out⟩) w.heap.size (by simp) (fun g h => by cases h; exact Nat.le_refl _) _ rfl hh (byt_one L) (by omega) (by rw [hz2]; omega) ?_; intro v' w' ho hf hnil)
    go_ret
    exact ⟨v', rfl, ho, ha'.out.trans hf (fun _ _ h => h)⟩

theorem eqBytes_any (u v : Value) (K L : List UInt8) (w : World) (h : Bytes w u K) (h' : Bytes w v L) :
    Calls Try.prog 19 #[u, v] w fun e w' => e = .returned (.bool (K == L)) ∧ w = w' := by
  have e1 := run_bytes_str (P := Try.prog) 27 9 5 h Try.underlying27 Try.underlying5 Try.underlying9
  have e2 := run_bytes_str (P := Try.prog) 27 9 5 h' Try.underlying27 Try.underlying5 Try.underlying9
  go_enter Try.func19, Try.ntmps19
  go_wp2
  go_ret
  exact ⟨rfl, rfl⟩

end Go.Proofs.Ytnflppgmccddoaa
