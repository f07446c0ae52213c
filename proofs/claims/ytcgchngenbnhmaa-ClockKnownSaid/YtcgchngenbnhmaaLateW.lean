/-
  The statements' walks: ClockLate.
-/
import Derived.Test.YtcgchngenbnhmaaB
import Derived.Test.YtcgchngenbnhmaaLaw
namespace Go.Proofs.Ytcgchngenbnhmaa
set_option linter.unusedVariables false
open Go.RowKit

/-- Tick, as the law asks it. -/
theorem tick_at {b : Nat} {l g : Int} {w : World} (hk : Ck w b l g) (g' : Int) (late : Bool) (h : 0 < l ∧ l ≤ 1000 ∧ 0 ≤ g ∧ g ≤ l) (h1 : tk l g = g') (h2 : (g' == l) = late) :
    Calls Try.prog 10 #[.pointer (some ⟨b, 0, none⟩)] w fun e w' => e = .returned (.bool late) ∧ Ck w' b l g' ∧ Fr (one b) w w' :=
  tick_to hk g' late ⟨h.1, h.2.1, h.2.2.1, h.2.2.2, h1, h2⟩

set_option maxRecDepth 100000 in
set_option maxHeartbeats 1000000 in
theorem late_walk (limit : Int) (a : Option Addr) (len cap : Nat) (f : Nat → Int) (W : World) (hl : IntsAt W a len f) (hm : len ≤ 9223372036854775807) :
    Calls Try.prog 6 #[.int .i64 limit, .slice a len cap] W fun e w' => e = .returned (.bool true) ∧ Below W.heap.size W w' := by
  go_enter Try.func6, Try.ntmps6
  go_wp2_with fail
  refine (works_any _).mono ?_
  rintro e w1 ⟨rfl, f1⟩
  go_wp2_with fail
  refine (bring_ex limit 1000 _ (by omega) (by omega)).mono ?_
  rintro e w' ⟨n, rfl, i0, i1, _, rfl⟩
  go_wp2_with fail
  have n0 : 1 ≤ 1 + n := by omega
  have n1 : 1 + n ≤ 1000 := by omega
  refine (new_ex _ _ n0 n1).mono ?_
  rintro e w2 ⟨C, rfl, hB, k2, f2⟩
  have B2 : Below W.heap.size W w2 := (f1.below (Nat.le_refl _) (fun _ h => h.elim)).trans (f2.below f1.size (fun _ h => h.elim))
  have hB' : W.heap.size ≤ C := by have := f1.size; omega
  obtain ⟨n', hn'⟩ : ∃ x, x = 1 + n := ⟨_, rfl⟩
  rw [← hn'] at k2 n0 n1
  go_wp2_with fail
  rw [← hn']
  clear hn' f1 f2 hB i0 i1
  go_loopw [8] (fun i wr => ∃ k : Nat, i = .int .i64 k ∧ k ≤ len ∧ k ≤ 20 ∧ Ck wr C n' 0 ∧ Below W.heap.size W wr) (fun i _ => len - (intOf i).toNat)
  case atStart => exact ⟨0, rfl, Nat.zero_le _, Nat.zero_le _, k2, B2⟩
  case round =>
    obtain ⟨k, rfl, hk, hk5, kr, br⟩ := hrel
    obtain ⟨wo, rfl⟩ : ∃ wo : World, wo = wr := ⟨_, rfl⟩
    by_cases hlt : k < len ∧ k < 20
    · obtain ⟨hlt, hlt5⟩ := hlt
      obtain ⟨b, off, rfl, hb, hc, _⟩ := hl k hlt
      have hx := (br.cell (p := ⟨b, off + k, none⟩) hb).trans (hc k hlt)
      clear hc
      obtain ⟨x, hx'⟩ : ∃ x, f k = x := ⟨_, rfl⟩
      rw [hx'] at hx
      clear hx'
      go_wp2_with fail
      refine (bring_ex x 2000 _ (by omega) (by omega)).mono ?_
      rintro e w' ⟨m, rfl, m0, m1, _, rfl⟩
      go_wp2_with fail
      go_loopw [10] (fun i wr => ∃ j : Nat, i = .int .i64 j ∧ 1 ≤ j ∧ (j : Int) ≤ m + 1 ∧ ∃ g : Int, 0 ≤ g ∧ g ≤ n' ∧ ((j : Int) - 1 ≤ n' → g = (j : Int) - 1) ∧ (n' ≤ (j : Int) - 1 → g = n') ∧ Ck wr C n' g ∧ Below W.heap.size W wr) (fun i _ => (m + 1 - intOf i).toNat)
      case atStart => exact ⟨1, rfl, by omega, by omega, 0, by omega, by omega, by omega, by omega, kr, br⟩
      case round =>
        obtain ⟨j, rfl, j0, j1, g, g0, g1, ga, gb, kg, bg⟩ := hrel
        have hga := Lib.hid ga
        have hgb := Lib.hid gb
        clear ga gb hx
        by_cases hj : (j : Int) ≤ m
        · have e1 : tk n' g = min (j : Int) n' := by
            have := hga.out; have := hgb.out
            unfold tk; split <;> omega
          have e2 : (min (j : Int) n' == n') = decide (n' ≤ (j : Int)) := by
            by_cases h : n' ≤ (j : Int)
            · simp [h]; omega
            · simp [h]; omega
          have t := tick_at (w := wr) kg (min (j : Int) n') (decide (n' ≤ (j : Int))) ⟨by omega, by omega, g0, g1⟩ e1 e2
          clear e1 e2
          have t' := Lib.hid t
          clear t
          go_wp2_with fail
          refine t'.out.mono ?_
          rintro e w3 ⟨rfl, k3, f3⟩
          go_wp2_with fail
          refine (left_any _ _ _ _ (by omega) (by omega) (by omega) (by omega) k3).mono ?_
          rintro e w4 ⟨rfl, f4⟩
          have k4 := k3.keep f4 id
          have b4 : Below W.heap.size W w4 := (bg.trans (f3.below bg.size (by rintro i rfl; omega))).trans (f4.below (Nat.le_trans bg.size f3.size) (fun _ h => h.elim))
          clear f3 f4 k3 kg bg
          go_wp2_with fail
          go_roundw
          case rel => exact ⟨j + 1, by go_num, by omega, by omega, _, by omega, by omega, by omega, by omega, k4, b4⟩
          case measure => simp [intOf]; omega
        · go_wp2_with fail
          refine (reset_any _ _ _ _ (by omega) kg).mono ?_
          rintro e w3 ⟨rfl, k3, f3⟩
          have b3 : Below W.heap.size W w3 := bg.trans (f3.below bg.size (by rintro i rfl; omega))
          clear f3 kg bg hga hgb
          go_wp2_with fail
          go_roundw
          case rel => exact ⟨k + 1, by go_num, by omega, by omega, k3, b3⟩
          case measure => simp [intOf]; omega
    · by_cases hlt' : k < len
      · have hk5' : (20 : Int) ≤ k := by omega
        go_wp2_with fail
        refine (limit_any _ _ _ _ (by omega) kr).mono ?_
        rintro e w' ⟨rfl, rfl⟩
        go_wp2_with fail
        refine (left_any _ _ _ _ (by omega) (by omega) (by omega) (by omega) kr).mono ?_
        rintro e w4 ⟨rfl, f4⟩
        go_wp2_with fail
        go_ret
        exact ⟨by simp, br.trans (f4.below br.size (fun _ h => h.elim))⟩
      · go_wp2_with fail
        refine (limit_any _ _ _ _ (by omega) kr).mono ?_
        rintro e w' ⟨rfl, rfl⟩
        go_wp2_with fail
        refine (left_any _ _ _ _ (by omega) (by omega) (by omega) (by omega) kr).mono ?_
        rintro e w4 ⟨rfl, f4⟩
        go_wp2_with fail
        go_ret
        exact ⟨by simp, br.trans (f4.below br.size (fun _ h => h.elim))⟩

end Go.Proofs.Ytcgchngenbnhmaa
