/-
  The statements' walks: ClockPlays.
-/
import Derived.Test.YtcgchngenbnhmaaB
import Derived.Test.YtcgchngenbnhmaaLaw
namespace Go.Proofs.Ytcgchngenbnhmaa
set_option linter.unusedVariables false
open Go.RowKit



set_option maxRecDepth 100000 in
set_option maxHeartbeats 1000000 in
theorem plays_walk (limit : Int) (a : Option Addr) (len cap : Nat) (f : Nat → Bool) (W : World) (hl : BoolsAt W a len f) (hm : len ≤ 9223372036854775807) :
    Calls Try.prog 5 #[.int .i64 limit, .slice a len cap] W fun e w' => e = .returned (.bool true) ∧ Below W.heap.size W w' := by
  by_cases hok : 1 ≤ limit ∧ limit ≤ 1000
  · obtain ⟨h0, h1⟩ := hok
    go_enter Try.func5, Try.ntmps5
    go_wp2_with fail
    refine (new_ok limit _ h0 h1).mono ?_
    rintro e w1 ⟨rfl, k1, f1⟩
    go_wp2_with fail
    refine (rnew_ok limit _ h0 h1).mono ?_
    rintro e w2 ⟨rfl, r2, f2⟩
    have k2 := k1.keep f2 id
    have hBC : W.heap.size < w1.heap.size := k1.lt
    have B2 : Below W.heap.size W w2 := (f1.trans f2 (fun _ _ h => h)).below (Nat.le_refl _) (fun _ h => h.elim)
    clear f1 f2 k1
    go_wp2_with fail
    go_loopw [9] (fun i wr => ∃ k : Nat, i = .int .i64 k ∧ k ≤ len ∧ k ≤ 500 ∧ ∃ g : Int, 0 ≤ g ∧ g ≤ limit ∧ Ck wr W.heap.size limit g ∧ Rk wr w1.heap.size limit g ∧ Below W.heap.size W wr) (fun i _ => len - (intOf i).toNat)
    case atStart => exact ⟨0, rfl, Nat.zero_le _, Nat.zero_le _, 0, Int.le_refl _, by omega, k2, r2, B2⟩
    case round =>
      obtain ⟨k, rfl, hk, hk5, g, g0, g1, kr, rr, br⟩ := hrel
      have hne : ¬ W.heap.size = w1.heap.size := by omega
      have hne' : ¬ w1.heap.size = W.heap.size := by omega
      by_cases hlt : k < len ∧ k < 500
      · obtain ⟨hlt, hlt5⟩ := hlt
        obtain ⟨b, off, rfl, hb, hc⟩ := hl k hlt
        have hx := (br.cell (p := ⟨b, off + k, none⟩) hb).trans (hc k hlt)
        clear hc
        obtain ⟨t0, t1⟩ := tk_bd (l := limit) (g := g) (by omega) g0 g1
        cases hf : f k with
        | true =>
          rw [hf] at hx
          clear hf
          go_wp2_with fail
          refine (tick_any _ _ _ _ (by omega) h1 g0 g1 kr).mono ?_
          rintro e w3 ⟨rfl, k3, f3⟩
          go_wp2_with fail
          have r3 := rr.keep f3 hne'
          refine (rtick_any _ _ _ _ (by omega) h1 g0 g1 r3).mono ?_
          rintro e w4 ⟨rfl, r4, f4⟩
          have k4 := k3.keep f4 hne
          have b4 : Below W.heap.size W w4 := (br.trans (f3.below br.size (by rintro i rfl; omega))).trans (f4.below (Nat.le_trans br.size f3.size) (by rintro i rfl; omega))
          clear f3 f4 r3 k3 br rr kr hx
          go_wp2_with fail
          refine (left_any _ _ _ _ (by omega) h1 t0 t1 k4).mono ?_
          rintro e w5 ⟨rfl, F5⟩
          go_wp2_with fail
          refine (rleft_any _ _ _ _ (by omega) h1 t0 t1 (r4.keep F5 id)).mono ?_
          rintro e w6 ⟨rfl, f6⟩
          have F6 := F5.trans f6 (fun _ _ h => h)
          go_wp2_with fail
          refine (limit_any _ _ _ _ (by omega) (k4.keep F6 id)).mono ?_
          rintro e w' ⟨rfl, rfl⟩
          go_wp2_with fail
          refine (rlimit_any _ _ _ _ (r4.keep F6 id)).mono ?_
          rintro e w' ⟨rfl, rfl⟩
          go_wp2_with fail
          go_roundw
          case rel => exact ⟨k + 1, by go_num, by omega, by omega, _, t0, t1, k4.keep F6 id, r4.keep F6 id, b4.trans (F6.below b4.size (fun _ h => h.elim))⟩
          case measure => simp [intOf]; omega
        | false => 
          rw [hf] at hx
          clear hf
          go_wp2_with fail
          refine (reset_any _ _ _ _ (by omega) kr).mono ?_
          rintro e w3 ⟨rfl, k3, f3⟩
          go_wp2_with fail
          have r3 := rr.keep f3 hne'
          refine (rreset_any _ _ _ _ r3).mono ?_
          rintro e w4 ⟨rfl, r4, f4⟩
          have k4 := k3.keep f4 hne
          have b4 : Below W.heap.size W w4 := (br.trans (f3.below br.size (by rintro i rfl; omega))).trans (f4.below (Nat.le_trans br.size f3.size) (by rintro i rfl; omega))
          clear f3 f4 r3 k3 br rr kr hx
          go_wp2_with fail
          refine (left_any _ _ _ _ (by omega) h1 (Int.le_refl _) (by omega) k4).mono ?_
          rintro e w5 ⟨rfl, F5⟩
          go_wp2_with fail
          refine (rleft_any _ _ _ _ (by omega) h1 (Int.le_refl _) (by omega) (r4.keep F5 id)).mono ?_
          rintro e w6 ⟨rfl, f6⟩
          have F6 := F5.trans f6 (fun _ _ h => h)
          go_wp2_with fail
          refine (limit_any _ _ _ _ (by omega) (k4.keep F6 id)).mono ?_
          rintro e w' ⟨rfl, rfl⟩
          go_wp2_with fail
          refine (rlimit_any _ _ _ _ (r4.keep F6 id)).mono ?_
          rintro e w' ⟨rfl, rfl⟩
          go_wp2_with fail
          go_roundw
          case rel => exact ⟨k + 1, by go_num, by omega, by omega, _, Int.le_refl _, by omega, k4.keep F6 id, r4.keep F6 id, b4.trans (F6.below b4.size (fun _ h => h.elim))⟩
          case measure => simp [intOf]; omega
      · by_cases hlt' : k < len
        · have hk5' : (500 : Int) ≤ k := by omega
          go_wp2_with fail
          refine (works_any _).mono ?_
          rintro e w3 ⟨rfl, f3⟩
          go_wp2_with fail
          go_ret
          exact ⟨rfl, br.trans (f3.below br.size (fun _ h => h.elim))⟩
        · go_wp2_with fail
          refine (works_any _).mono ?_
          rintro e w3 ⟨rfl, f3⟩
          go_wp2_with fail
          go_ret
          exact ⟨rfl, br.trans (f3.below br.size (fun _ h => h.elim))⟩
  · have hno : limit < 1 ∨ 1000 < limit := by omega
    go_enter Try.func5, Try.ntmps5
    go_wp2_with fail
    refine (new_no limit _ hno).mono ?_
    rintro e w' ⟨rfl, rfl⟩
    go_wp2_with fail
    refine (rnew_no limit _ hno).mono ?_
    rintro e w' ⟨rfl, rfl⟩
    go_wp2_with fail
    refine wp_loop_rounds 1 ?_
    rw [rounds_succ]
    go_wp2_with fail
    all_goals
      refine (works_any _).mono ?_
      rintro e w3 ⟨rfl, f3⟩
      go_wp2_with fail
      go_ret
      exact ⟨rfl, f3.below (Nat.le_refl _) (fun _ h => h.elim)⟩

end Go.Proofs.Ytcgchngenbnhmaa
