/-
  gimballaw13.same: both disks stand alike.
-/
import Derived.Test.YtnflppgmccddoaaR2
namespace Go.Proofs.Ytnflppgmccddoaa
set_option linter.unusedVariables false
open Go.RowKit
variable {V F : Nat → Prop}

set_option maxRecDepth 100000 in
set_option maxHeartbeats 2000000 in
theorem same_any (x b : Nat) (s : DSt) (w : World) (hx : Dk F w x s) (hm : Rd V F w b s) :
    Calls Try.prog 12 #[.pointer (some ⟨x, 0, none⟩), .pointer (some ⟨b, 0, none⟩)] w fun e w' => e = .returned (.bool true) ∧ Fr none' w w' := by
  have hll : s.log.length ≤ 1048576 ∧ s.s0.length ≤ 65536 := by obtain ⟨_, _, _, _, _, _, _, ⟨h1, h2, _⟩, _⟩ := hm; exact ⟨h1, h2⟩
  obtain ⟨hll, hl0⟩ := hll
  go_enter Try.func12, Try.ntmps12
  go_wp2_with fail
  refine (log_any _ _ _ hx).mono ?_
  rintro e w1 ⟨v5, rfl, o5, f1⟩
  have hx1 := hx.keep0 f1
  have hm1 := hm.keep0 f1
  obtain ⟨a5, c5, rfl⟩ := Bytes.cells (w := w1) (L := s.log) (Sl.of_own o5)
  have n5 := Lib.hid (ownsRow_block o5)
  have o5h := Lib.hid o5
  clear hx hm o5
  go_wp2_with fail
  refine (slots_any _ _ _ hx1).mono ?_
  rintro e w2 ⟨v0, v1, rfl, o0, o1, -, f2⟩
  have hx2 := hx1.keep0 f2
  have hm2 := hm1.keep0 f2
  obtain ⟨a0, c0, rfl⟩ := Bytes.cells (w := w2) (L := s.s0) (Sl.of_own o0)
  obtain ⟨a1, c1, rfl⟩ := Bytes.cells (w := w2) (L := s.s1) (Sl.of_own o1)
  have n0 := Lib.hid (ownsRow_block o0)
  have o0h := Lib.hid o0
  have o1h := Lib.hid o1
  clear hx1 hm1 o0 o1
  go_wp2_with fail
  refine (rslots_any _ _ _ hm2).mono ?_
  rintro e w3 ⟨u0, u1, rfl, p0, p1, f3⟩
  have hx3 := hx2.keep0 f3
  have hm3 := hm2.keep0 f3
  obtain ⟨d0, e0, rfl⟩ := Bytes.cells (w := w3) (L := s.s0) (Sl.of_own p0)
  obtain ⟨d1, e1, rfl⟩ := Bytes.cells (w := w3) (L := s.s1) (Sl.of_own p1)
  have p0h := Lib.hid p0
  have p1h := Lib.hid p1
  clear hx2 hm2 p0 p1
  go_upto_region 2 with fail
  obtain ⟨w4, hw4⟩ : ∃ w4, w4 = (w3.alloc (Obj.cells #[Value.slice a0 s.s0.length c0, Value.slice a1 s.s1.length c1] 34)).alloc (Obj.cells #[Value.slice d0 s.s0.length e0, Value.slice d1 s.s1.length e1] 34) := ⟨_, rfl⟩
  have f4 : Fr none' w3 w4 := by rw [hw4]; (repeat (first | exact Fr.refl _ _ | assumption | apply Fr.drew | apply Fr.drewN | apply Fr.alloc | (refine Fr.setCell ?_ _ _ (by first | exact .inr rfl | (left; simp; done) | (left; simp; omega) | (right; simp [one, two]; done)))))
  have q6 : w4.heap[w3.heap.size]? = some (.cells #[Value.slice a0 s.s0.length c0, Value.slice a1 s.s1.length c1] 34 (0, 0)) := by rw [hw4]; (repeat (first | rw [blk_drew] | rw [blk_drewN] | rw [blk_alloc_old (by first | omega | (simp; done) | (simp; omega))] | rw [blk_set_other (by first | omega | (simp; done) | (simp; omega))] | rw [blk_alloc_new (by first | omega | (simp; done) | (simp; omega))]))
  have q7 : w4.heap[w3.heap.size + 1]? = some (.cells #[Value.slice d0 s.s0.length e0, Value.slice d1 s.s1.length e1] 34 (0, 0)) := by rw [hw4]; (repeat (first | rw [blk_drew] | rw [blk_drewN] | rw [blk_alloc_old (by first | omega | (simp; done) | (simp; omega))] | rw [blk_set_other (by first | omega | (simp; done) | (simp; omega))] | rw [blk_alloc_new (by first | omega | (simp; done) | (simp; omega))]))
  rw [← hw4]
  clear hw4
  have s1 := f1.size
  have s2 := f2.size
  have s3 := f3.size
  have hx4 := hx3.keep0 f4
  have hm4 := hm3.keep0 f4
  have g5 := Lib.hid (ownsRow_keep (ownsRow_keep (ownsRow_keep o5h.out f2 (fun _ _ h => h)) f3 (fun _ _ h => h)) f4 (fun _ _ h => h))
  have g0 := Lib.hid (ownsRow_keep (ownsRow_keep o0h.out f3 (fun _ _ h => h)) f4 (fun _ _ h => h))
  have g1 := Lib.hid (ownsRow_keep (ownsRow_keep o1h.out f3 (fun _ _ h => h)) f4 (fun _ _ h => h))
  have k0 := Lib.hid (ownsRow_keep p0h.out f4 (fun _ _ h => h))
  have k1 := Lib.hid (ownsRow_keep p1h.out f4 (fun _ _ h => h))
  have F4 := ((f1.trans f2 (fun _ _ h => h)).trans f3 (fun _ _ h => h)).trans f4 (fun _ _ h => h)
  have q6h := Lib.hid q6
  have q7h := Lib.hid q7
  clear hx3 hm3 o5h o0h o1h p0h p1h f1 f2 f3 f4 q6 q7
  go_wp2_with fail
  refine (rlog_any _ _ _ hm4).mono ?_
  rintro e w5 ⟨v', rfl, o', f5⟩
  have hx5 := hx4.keep0 f5
  have hm5 := hm4.keep0 f5
  have q6 := f5.blk q6h.out id
  have q7 := f5.blk q7h.out id
  have y0 := cell_of_blk (o := 0) q6 rfl
  have y1 := cell_of_blk (o := 1) q6 rfl
  have z0 := cell_of_blk (o := 0) q7 rfl
  have z1 := cell_of_blk (o := 1) q7 rfl
  have b5 : Bytes w5 (.slice a5 s.log.length c5) s.log := Bytes.keep0 (w := w4) (Sl.of_own g5.out) f5
  have b' : Bytes w5 v' s.log := Sl.of_own o'
  have b0 : Bytes w5 (.slice a0 s.s0.length c0) s.s0 := Bytes.keep0 (w := w4) (Sl.of_own g0.out) f5
  have b1 : Bytes w5 (.slice a1 s.s1.length c1) s.s1 := Bytes.keep0 (w := w4) (Sl.of_own g1.out) f5
  have j0 : Bytes w5 (.slice d0 s.s0.length e0) s.s0 := Bytes.keep0 (w := w4) (Sl.of_own k0.out) f5
  have j1 : Bytes w5 (.slice d1 s.s1.length e1) s.s1 := Bytes.keep0 (w := w4) (Sl.of_own k1.out) f5
  have q6k := Lib.hid q6
  clear hx4 hm4 q6 q7 o' k0 k1 q6h q7h
  go_wp2_with fail
  refine (eqBytes_any _ _ s.log s.log _ b5 b').mono ?_
  rintro e w' ⟨rfl, rfl⟩
  rw [show (s.log == s.log) = true by simp]
  go_wp2_with fail
  refine (eqBytes_any _ _ s.s0 s.s0 _ b0 j0).mono ?_
  rintro e w' ⟨rfl, rfl⟩
  rw [show (s.s0 == s.s0) = true by simp]
  go_wp2_with fail
  refine (eqBytes_any _ _ s.s1 s.s1 _ b1 j1).mono ?_
  rintro e w' ⟨rfl, rfl⟩
  rw [show (s.s1 == s.s1) = true by simp]
  go_wp2_with fail
  refine (dead_any _ _ _ hx5).mono ?_
  rintro e w' ⟨rfl, rfl⟩
  go_wp2_with fail
  refine (rdead_any _ _ _ hm5).mono ?_
  rintro e w' ⟨rfl, rfl⟩
  have hdd : (s.dead != s.dead) = false := by simp
  have F5 := Lib.hid (F4.trans f5 (fun _ _ h => h))
  have T5 := Turn.start (ownsRow_keep g5.out f5 (fun _ _ h => h))
  have g0' := Lib.hid (ownsRow_keep g0.out f5 (fun _ _ h => h))
  clear y0 y1 z0 z1 b5 b' b0 b1 j0 j1 hx5 hm5 F4 g5 g0 g1 f5
  go_wp2_with fail
  clear hdd
  go_loopw [8] (fun i wr => ∃ k : Nat, i = .int .i64 k ∧ k ≤ s.log.length ∧ Turn w.heap.size (.slice a5 s.log.length c5) s.log.length w5 wr) (fun i _ => s.log.length - (intOf i).toNat)
  case atStart => exact ⟨0, rfl, Nat.zero_le _, T5⟩
  case round =>
    obtain ⟨k, rfl, hk, ht⟩ := hrel
    clear T5
    by_cases hlt : k < s.log.length
    · obtain ⟨g, cap, y, he, hc, hz, hn⟩ := ht.cell k hlt
      injection he with h1 h2 h3
      subst h1; subst h3
      clear h2 ht
      go_wp2_with fail
      go_roundw
      case rel => exact ⟨k + 1, by go_num, by omega, hn _⟩
      case measure => simp [intOf]; omega
    · obtain ⟨w6, rfl⟩ : ∃ w6, w6 = wr := ⟨_, rfl⟩
      have f6 := ht.2
      have hP : ∀ i, (Value.slice a5 s.log.length c5).ownBlock = some i → w.heap.size ≤ i ∧ i < w1.heap.size := n5.out
      have q6 := f6.blk q6k.out (fun e => by have := (hP _ e).2; omega)
      have y0 := cell_of_blk (o := 0) q6 rfl
      have T0 := Turn.start (ownsRow_keep g0'.out f6 (fun i hi e => by have := (hP _ e).2; have := (n0.out _ hi).1; omega))
      have F6 := F5.out.trans f6 (fun i hi e => by have := (hP _ e).1; omega)
      have q6h := Lib.hid q6
      have hPh := Lib.hid hP
      have F6h := Lib.hid F6
      clear q6 f6 ht hP q6k F5 g0' n5 F6
      go_wp2_with fail
      go_loopw [9] (fun i wr => ∃ k : Nat, i = .int .i64 k ∧ k ≤ s.s0.length ∧ Turn w1.heap.size (.slice a0 s.s0.length c0) s.s0.length w6 wr) (fun i _ => s.s0.length - (intOf i).toNat)
      case atStart => exact ⟨0, rfl, Nat.zero_le _, T0⟩
      case round =>
        obtain ⟨m, rfl, hm, ht⟩ := hrel
        clear T0 y0
        have q7 := ht.2.blk q6h.out (fun e => by have := (n0.out _ e).2; omega)
        have y0 := cell_of_blk (o := 0) q7 rfl
        clear q7
        by_cases hlt' : m < s.s0.length
        · obtain ⟨g, cap, y, he, hc, hz, hn⟩ := ht.cell m hlt'
          injection he with h1 h2 h3
          subst h1; subst h3
          clear h2 ht
          go_wp2_with fail
          go_region
          go_wp2_with fail
          go_roundw
          case rel => exact ⟨m + 1, by go_num, by omega, (hn _).drew⟩
          case measure => simp [intOf]; omega
        · go_wp2_with fail
          go_ret
          exact ⟨rfl, F6h.out.trans ht.2 (fun i hi e => by have := (n0.out _ e).1; omega)⟩

end Go.Proofs.Ytnflppgmccddoaa
