/-
  The statements' walks: ClockAgain.
-/
import Derived.Test.YtcgchngenbnhmaaB
import Derived.Test.YtcgchngenbnhmaaLaw
namespace Go.Proofs.Ytcgchngenbnhmaa
set_option linter.unusedVariables false
open Go.RowKit


set_option maxRecDepth 100000 in
set_option maxHeartbeats 1000000 in
theorem again_walk (limit ahead : Int) (a : Option Addr) (len cap : Nat) (f : Nat → Bool) (W : World) (hl : BoolsAt W a len f) (hm : len ≤ 9223372036854775807) :
    Calls Try.prog 3 #[.int .i64 limit, .int .i64 ahead, .slice a len cap] W fun e w' => e = .returned (.bool true) ∧ Below W.heap.size W w' := by
  go_enter Try.func3, Try.ntmps3
  go_wp2_with fail
  refine (bring_ex limit 1000 _ (by omega) (by omega)).mono ?_
  rintro e w' ⟨n, rfl, i0, i1, _, rfl⟩
  go_wp2_with fail
  have n0 : 1 ≤ 1 + n := by omega
  have n1 : 1 + n ≤ 1000 := by omega
  refine (new_ex _ _ n0 n1).mono ?_
  rintro e w1 ⟨C, rfl, hC, k1, f1⟩
  go_wp2_with fail
  refine (new_ex _ _ n0 n1).mono ?_
  rintro e w2 ⟨D, rfl, hD, d2, f2⟩
  have k2 := k1.keep f2 id
  have hCD : C < D := by have := k1.lt; omega
  have B2 : Below W.heap.size W w2 := (f1.trans f2 (fun _ _ h => h)).below (Nat.le_refl _) (fun _ h => h.elim)
  obtain ⟨n', hn'⟩ : ∃ x, x = 1 + n := ⟨_, rfl⟩
  rw [← hn'] at k2 d2 n0 n1
  go_wp2_with fail
  rw [← hn']
  clear hn' f1 f2 hD k1 i0 i1
  have hne : ¬ C = D := by omega
  have hne' : ¬ D = C := by omega
  go_loopw [12] (fun i wr => ∃ k : Nat, i = .int .i64 k ∧ k ≤ 2000 ∧ ∃ g : Int, 0 ≤ g ∧ g ≤ n' ∧ Ck wr C n' g ∧ Ck wr D n' 0 ∧ Below W.heap.size W wr) (fun i _ => 2000 - (intOf i).toNat)
  case atStart => exact ⟨0, rfl, by omega, 0, by omega, by omega, k2, d2, B2⟩
  case round =>
    obtain ⟨k, rfl, hk, g, g0, g1, kr, dr, br⟩ := hrel
    obtain ⟨t0, t1⟩ := tk_bd (l := n') (g := g) (by omega) g0 g1
    go_wp2_with fail
    refine (bring_ex ahead 2000 _ (by omega) (by omega)).mono ?_
    rintro e w' ⟨m, rfl, m0, m1, _, rfl⟩
    by_cases hkm : (k : Int) < m
    · go_wp2_with fail
      refine (tick_any _ _ _ _ (by omega) (by omega) g0 g1 kr).mono ?_
      rintro e w3 ⟨rfl, k3, f3⟩
      have d3 := dr.keep f3 hne'
      have b3 : Below W.heap.size W w3 := br.trans (f3.below br.size (by rintro i rfl; omega))
      go_wp2_with fail
      go_roundw
      case rel => exact ⟨k + 1, by go_num, by omega, _, t0, t1, k3, d3, b3⟩
      case measure => simp [intOf]; omega
    · go_wp2_with fail
      refine (reset_any _ _ _ _ (by omega) kr).mono ?_
      rintro e w3 ⟨rfl, k3, f3⟩
      have d3 := dr.keep f3 hne'
      have b3 : Below W.heap.size W w3 := br.trans (f3.below br.size (by rintro i rfl; omega))
      clear kr dr br f3 B2 k2 d2 t0 t1 g0 g1 hkm hk m0 m1
      go_wp2_with fail
      go_loopw [13] (fun i wr => ∃ k : Nat, i = .int .i64 k ∧ k ≤ len ∧ k ≤ 300 ∧ ∃ g : Int, 0 ≤ g ∧ g ≤ n' ∧ Ck wr C n' g ∧ Ck wr D n' g ∧ Below W.heap.size W wr) (fun i _ => 300 - (intOf i).toNat)
      case atStart => exact ⟨0, rfl, by omega, by omega, 0, by omega, by omega, k3, d3, b3⟩
      case round =>
        obtain ⟨k, rfl, hk, hk5, g, g0, g1, kr, dr, br⟩ := hrel
        clear k3 d3 b3
        by_cases hlt : k < len ∧ k < 300
        · obtain ⟨hlt, hlt5⟩ := hlt
          obtain ⟨b, off, rfl, hb, hc⟩ := hl k hlt
          have hx := (br.cell (p := ⟨b, off + k, none⟩) hb).trans (hc k hlt)
          obtain ⟨t0, t1⟩ := tk_bd (l := n') (g := g) (by omega) g0 g1
          cases hf : f k with
          | true =>
            rw [hf] at hx
            go_wp2_with fail
            refine (tick_any _ _ _ _ (by omega) (by omega) g0 g1 kr).mono ?_
            rintro e w3 ⟨rfl, k3, f3⟩
            go_wp2_with fail
            have r3 := dr.keep f3 hne'
            refine (tick_any _ _ _ _ (by omega) (by omega) g0 g1 r3).mono ?_
            rintro e w4 ⟨rfl, r4, f4⟩
            have k4 := k3.keep f4 hne
            have b4 : Below W.heap.size W w4 := (br.trans (f3.below br.size (by rintro i rfl; omega))).trans (f4.below (Nat.le_trans br.size f3.size) (by rintro i rfl; omega))
            have hx4 := (b4.cell (p := ⟨b, off + k, none⟩) hb).trans (hc k hlt)
            rw [‹f k = true›] at hx4
            clear f3 f4 r3 k3 br dr kr hx hc
            go_wp2_with fail
            refine (left_any _ _ _ _ (by omega) (by omega) t0 t1 k4).mono ?_
            rintro e w5 ⟨rfl, F5⟩
            go_wp2_with fail
            refine (left_any _ _ _ _ (by omega) (by omega) t0 t1 (r4.keep F5 id)).mono ?_
            rintro e w6 ⟨rfl, f6⟩
            have F6 := F5.trans f6 (fun _ _ h => h)
            go_wp2_with fail
            go_roundw
            case rel => exact ⟨k + 1, by go_num, by omega, by omega, _, t0, t1, k4.keep F6 id, r4.keep F6 id, b4.trans (F6.below b4.size (fun _ h => h.elim))⟩
            case measure => simp [intOf]; omega
          | false =>
            rw [hf] at hx
            go_wp2_with fail
            refine (reset_any _ _ _ _ (by omega) kr).mono ?_
            rintro e w3 ⟨rfl, k3, f3⟩
            go_wp2_with fail
            have r3 := dr.keep f3 hne'
            refine (reset_any _ _ _ _ (by omega) r3).mono ?_
            rintro e w4 ⟨rfl, r4, f4⟩
            have k4 := k3.keep f4 hne
            have b4 : Below W.heap.size W w4 := (br.trans (f3.below br.size (by rintro i rfl; omega))).trans (f4.below (Nat.le_trans br.size f3.size) (by rintro i rfl; omega))
            clear f3 f4 r3 k3 br dr kr hx hc
            go_wp2_with fail
            refine (left_any _ _ _ _ (by omega) (by omega) (by omega) (by omega) k4).mono ?_
            rintro e w5 ⟨rfl, F5⟩
            go_wp2_with fail
            refine (left_any _ _ _ _ (by omega) (by omega) (by omega) (by omega) (r4.keep F5 id)).mono ?_
            rintro e w6 ⟨rfl, f6⟩
            have F6 := F5.trans f6 (fun _ _ h => h)
            go_wp2_with fail
            go_roundw
            case rel => exact ⟨k + 1, by go_num, by omega, by omega, _, by omega, by omega, k4.keep F6 id, r4.keep F6 id, b4.trans (F6.below b4.size (fun _ h => h.elim))⟩
            case measure => simp [intOf]; omega
        · by_cases hlt' : k < len
          · have hk5' : (300 : Int) ≤ k := by omega
            go_wp2_with fail
            refine (works_any _).mono ?_
            rintro e w3 ⟨rfl, f3⟩
            go_wp2_with fail
            go_ret
            exact ⟨rfl, br.trans (f3.below br.size (fun _ h => h.elim))⟩
          · go_wp2_with fail
            refine (works_any _).mono ?_
            rintro e w3 ⟨rfl, f3⟩
            go_wp2_with fail
            go_ret
            exact ⟨rfl, br.trans (f3.below br.size (fun _ h => h.elim))⟩

end Go.Proofs.Ytcgchngenbnhmaa
