/-
  The statements' walks: DiskPlays.
-/
import Derived.Test.YtnflppgmccddoaaP
import Derived.Test.YtnflppgmccddoaaO
import Derived.Test.YtnflppgmccddoaaW
namespace Go.Proofs.Ytnflppgmccddoaa
set_option linter.unusedVariables false
open Go.RowKit

def PCut (b : Nat) (k n : Int) (raw : Bool) (L0 : List UInt8) (wr : World) (g : Nat) (w : World) : Prop :=
  ∃ L a c, w.heap[g]? = some (.cells #[.int .i64 k, .int .i64 n, .slice a L.length c, .bool raw] 29 (0, 0)) ∧ Bytes w (.slice a L.length c) L ∧ L.length ≤ 300 ∧ Fr none' wr w

set_option maxRecDepth 100000 in
set_option maxHeartbeats 4000000 in
theorem plays_walk (a : Option Addr) (cap : Nat) (xs : List Doing) (W : World) (hm : xs.length ≤ 9223372036854775807) (hl : Sl W (.slice a xs.length cap) 4 xs.length (xs.flatMap Doing.cells)) (hx : ∀ m ∈ xs, m.ok W ∧ m.cells.length = 4) :
    Calls Try.prog 3 #[.slice a xs.length cap] W fun e w' => e = .returned (.bool true) ∧ Below W.heap.size W w' := by
  have hxh := Lib.hid hx
  clear hx
  go_enter Try.func3, Try.ntmps3
  go_wp2_with fail
  refine (dnew_any (V := none') _).mono ?_
  rintro e w1 ⟨x, rfl, hb, h1, f1⟩
  go_wp2_with fail
  refine (rnew_any _).mono ?_
  rintro e w2 ⟨rfl, h2, f2⟩
  have hxl := h1.lt
  have h1 := h1.shift f2 (V' := one w1.heap.size) (fun i hi => ⟨.inr (by cases hi; exact Nat.le_refl _), by cases hi; exact h2.lt⟩)
  have F2 := f1.trans f2 (fun _ _ h => h)
  have hW1 := f1.size
  obtain ⟨b, hbe⟩ : ∃ b, b = w1.heap.size := ⟨_, rfl⟩
  rw [← hbe] at h1 h2 hxl hW1 ⊢
  clear f1 f2 hbe
  go_wp2_with fail
  go_loopw [5] (fun i wr => ∃ k : Nat, i = .int .i64 k ∧ k ≤ xs.length ∧ k ≤ 100 ∧ ∃ F s, (∀ i, F i → W.heap.size ≤ i) ∧ Dk F wr x s ∧ Rd none' F wr b s ∧ Fr none' W wr) (fun i _ => xs.length - (intOf i).toNat)
  case atStart => exact ⟨0, rfl, Nat.zero_le _, Nat.zero_le _, one b, _, fun i hi => by cases hi; omega, h1, h2, F2⟩
  case round =>
    obtain ⟨k, rfl, hk, hk5, F, s, hF, kr, rr, br⟩ := hrel
    clear h1 h2 F2
    have hFh := Lib.hid hF
    clear hF
    by_cases hlt : k < xs.length ∧ k < 100
    · obtain ⟨hlt, hlt5⟩ := hlt
      obtain ⟨q, off, rfl, hq, hc⟩ := dos_elem hl k hlt
      obtain ⟨⟨hB, hBl, hn⟩, _⟩ := hxh.out _ (List.getElem_mem hlt)
      obtain ⟨d, hd⟩ : ∃ d, d = xs[k] := ⟨_, rfl⟩
      rw [← hd] at hc hB hBl hn
      obtain ⟨kd, n, v, B, raw⟩ := d
      obtain ⟨aB, cB, rfl⟩ := Bytes.cells (w := W) (L := B) hB
      have d0 := (br.cell (p := ⟨q, off + (k * 4 + 0), none⟩) hq id).trans (hc 0 _ rfl)
      have d1 : wr.cell? ⟨q, off + k * 4 + 1, none⟩ = some (.int .i64 n) := by
        rw [Nat.add_assoc]
        exact (br.cell (p := ⟨q, off + (k * 4 + 1), none⟩) hq id).trans (hc 1 _ rfl)
      have d2 : wr.cell? ⟨q, off + k * 4 + 2, none⟩ = some (.slice aB B.length cB) := by
        rw [Nat.add_assoc]
        exact (br.cell (p := ⟨q, off + (k * 4 + 2), none⟩) hq id).trans (hc 2 _ rfl)
      have d3 : wr.cell? ⟨q, off + k * 4 + 3, none⟩ = some (.bool raw) := by
        rw [Nat.add_assoc]
        exact (br.cell (p := ⟨q, off + (k * 4 + 3), none⟩) hq id).trans (hc 3 _ rfl)
      simp only [Nat.add_zero] at d0
      clear hd hc
      have hbr := Lib.hid br
      have hBc := hB.facts.2.1
      have hBr := hB.keep0 br
      have hOff : ∀ n c, (0 < n → 0 < B.length) → Off F (.slice aB n c) := fun n c h0 a' n' c' he hn' hv => by
        injection he with h1 h2 h3
        subst h1; subst h2
        obtain ⟨ao, cap', e, _, _, _, h4⟩ := hB
        injection e with e1 e2 e3
        subst e1
        obtain ⟨g, off', e4, hg, _⟩ := h4 (h0 hn')
        injection e4 with e4
        subst e4
        have := hg (by decide)
        have := hFh.out _ hv
        simp at this
        omega
      have hxr := kr.lt
      clear br hxh
      rcases (show B.length ≤ 300 ∨ 300 < B.length by omega) with hA | hA
      · go_upto_region 7 with fail
        obtain ⟨w4, hw4⟩ : ∃ w4, w4 = wr.alloc (Obj.cells #[.int .i64 kd, .int .i64 n, .slice aB B.length cB, .bool raw] 29) := ⟨_, rfl⟩
        have f4 : Fr none' wr w4 := by rw [hw4]; exact (Fr.refl _ _).alloc _
        have q4 : w4.heap[wr.heap.size]? = some (.cells #[.int .i64 kd, .int .i64 n, .slice aB B.length cB, .bool raw] 29 (0, 0)) := by rw [hw4]; exact blk_alloc_new rfl
        rw [← hw4]
        clear hw4 d0 d1 d2 d3
        have e0 := cell_of_blk (o := 0) q4 rfl
        have e1 := cell_of_blk (o := 1) q4 rfl
        have e2 := cell_of_blk (o := 2) q4 rfl
        have e3 := cell_of_blk (o := 3) q4 rfl
        have hB4 : Bytes w4 (.slice aB B.length cB) B := hBr.keep0 f4
        clear q4
        go_wp2_with fail
        refine (step_any x b s kd n raw _ B w4 (kr.keep0 f4) (rr.keep0 f4) hB4 (hOff _ _ (fun _ => by omega)) hA hn).mono ?_
        rintro e w5 ⟨rfl, F', s', hs', dk, rd, fr⟩
        have hs'' := Lib.hid hs'
        have br5 := Lib.hid ((hbr.out.trans f4 (fun _ _ h => h)).trans fr (fun i hi e => by
          rcases e with e | e
          · omega
          · have := hFh.out i e; omega))
        have hsz := hbr.out.size
        have hsz4 := f4.size
        clear hs' fr f4 e0 e1 e2 e3 kr rr
        go_wp2_with fail
        refine (same_any x b s' w5 dk rd).mono ?_
        rintro e w6 ⟨rfl, f6⟩
        go_wp2_with fail
        go_roundw
        case rel => exact ⟨k + 1, by go_num, by omega, by omega, F', s', fun i hi => by
          rcases hs''.out i hi with h | h
          · exact hFh.out i h
          · omega, dk.keep0 f6, rd.keep0 f6, br5.out.trans f6 (fun _ _ h => h)⟩
        case measure => simp [intOf]; omega
      · go_upto_region 7 with fail
        obtain ⟨w4, hw4⟩ : ∃ w4, w4 = wr.alloc (Obj.cells #[.int .i64 kd, .int .i64 n, .slice aB 300 cB, .bool raw] 29) := ⟨_, rfl⟩
        have f4 : Fr none' wr w4 := by rw [hw4]; exact (Fr.refl _ _).alloc _
        have q4 : w4.heap[wr.heap.size]? = some (.cells #[.int .i64 kd, .int .i64 n, .slice aB 300 cB, .bool raw] 29 (0, 0)) := by rw [hw4]; exact blk_alloc_new rfl
        rw [← hw4]
        clear hw4 d0 d1 d2 d3
        have e0 := cell_of_blk (o := 0) q4 rfl
        have e1 := cell_of_blk (o := 1) q4 rfl
        have e2 := cell_of_blk (o := 2) q4 rfl
        have e3 := cell_of_blk (o := 3) q4 rfl
        have hB4 : Bytes w4 (.slice aB 300 cB) (B.take 300) := (hBr.take rfl 300 (by omega)).keep0 f4
        clear q4
        go_wp2_with fail
        refine (step_any x b s kd n raw _ (B.take 300) w4 (kr.keep0 f4) (rr.keep0 f4) hB4 (hOff _ _ (fun _ => by omega)) (by simp; omega) hn).mono ?_
        rintro e w5 ⟨rfl, F', s', hs', dk, rd, fr⟩
        have hs'' := Lib.hid hs'
        have br5 := Lib.hid ((hbr.out.trans f4 (fun _ _ h => h)).trans fr (fun i hi e => by
          rcases e with e | e
          · omega
          · have := hFh.out i e; omega))
        have hsz := hbr.out.size
        have hsz4 := f4.size
        clear hs' fr f4 e0 e1 e2 e3 kr rr
        go_wp2_with fail
        refine (same_any x b s' w5 dk rd).mono ?_
        rintro e w6 ⟨rfl, f6⟩
        go_wp2_with fail
        go_roundw
        case rel => exact ⟨k + 1, by go_num, by omega, by omega, F', s', fun i hi => by
          rcases hs''.out i hi with h | h
          · exact hFh.out i h
          · omega, dk.keep0 f6, rd.keep0 f6, br5.out.trans f6 (fun _ _ h => h)⟩
        case measure => simp [intOf]; omega
    · clear hl hxh
      rcases (show k = xs.length ∨ (k < xs.length ∧ k = 100) by omega) with h0 | ⟨h0, h1⟩
      · have h0' : ¬ k < xs.length := by omega
        clear h0
        go_wp2_with fail
        refine (same_any x b s wr kr rr).mono ?_
        rintro e w6 ⟨rfl, f6⟩
        go_wp2_with fail
        refine (works_any _).mono ?_
        rintro e w3 ⟨rfl, f3⟩
        go_wp2_with fail
        go_ret
        exact ⟨rfl, ((br.trans f6 (fun _ _ h => h)).trans f3 (fun _ _ h => h)).below (Nat.le_refl _) (fun _ h => h.elim)⟩
      · have h1' : ¬ k < 100 := by omega
        clear h1
        go_wp2_with fail
        refine (same_any x b s wr kr rr).mono ?_
        rintro e w6 ⟨rfl, f6⟩
        go_wp2_with fail
        refine (works_any _).mono ?_
        rintro e w3 ⟨rfl, f3⟩
        go_wp2_with fail
        go_ret
        exact ⟨rfl, ((br.trans f6 (fun _ _ h => h)).trans f3 (fun _ _ h => h)).below (Nat.le_refl _) (fun _ h => h.elim)⟩

end Go.Proofs.Ytnflppgmccddoaa
