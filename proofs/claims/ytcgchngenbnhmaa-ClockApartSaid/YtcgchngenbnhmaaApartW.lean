/-
  The statements' walks: ClockApart.
-/
import Derived.Test.YtcgchngenbnhmaaB
import Derived.Test.YtcgchngenbnhmaaLaw
import Derived.Deep.RegionHeld3
namespace Go.Proofs.Ytcgchngenbnhmaa
set_option linter.unusedVariables false
open Go.RowKit

/-- The law's memory: the limits, the clocks, how many ticks have gone. -/
structure ASt (w : World) (B C D : Nat) (l0 l1 q0 q1 : Int) : Prop where
  lim : w.heap[B]? = some (.cells #[.int .i64 l0, .int .i64 l1] 32 (0, 0))
  ptr : w.heap[B + 1]? = some (.cells #[.pointer (some ⟨C, 0, none⟩), .pointer (some ⟨D, 0, none⟩)] 33 (0, 0))
  gone : w.heap[B + 1 + 1]? = some (.cells #[.int .i64 q0, .int .i64 q1] 32 (0, 0))
  c : Ck w C l0 (min q0 l0)
  d : Ck w D l1 (min q1 l1)

/-- Which of the two. -/
def Sel (k C D : Nat) (l0 l1 q0 q1 : Int) (E : Nat) (l q : Int) : Prop := (k = 0 ∧ E = C ∧ l = l0 ∧ q = q0) ∨ (k = 1 ∧ E = D ∧ l = l1 ∧ q = q1)

theorem ASt.get {w : World} {B C D : Nat} {l0 l1 q0 q1 : Int} (h : ASt w B C D l0 l1 q0 q1) {k : Nat} (hk : k < 2) :
    ∃ E l q, Sel k C D l0 l1 q0 q1 E l q ∧ w.cell? ⟨B, k, none⟩ = some (.int .i64 l) ∧ w.cell? ⟨B + 1, k, none⟩ = some (.pointer (some ⟨E, 0, none⟩)) ∧ w.cell? ⟨B + 1 + 1, k, none⟩ = some (.int .i64 q) ∧
      w.frozen? ⟨B + 1 + 1, k, none⟩ = false ∧ Ck w E l (min q l) := by
  obtain rfl | rfl : k = 0 ∨ k = 1 := by omega
  · exact ⟨C, l0, q0, .inl ⟨rfl, rfl, rfl, rfl⟩, cell_of_blk h.lim rfl, cell_of_blk h.ptr rfl, cell_of_blk h.gone rfl, free_of_blk h.gone, h.c⟩
  · exact ⟨D, l1, q1, .inr ⟨rfl, rfl, rfl, rfl⟩, cell_of_blk h.lim rfl, cell_of_blk h.ptr rfl, cell_of_blk h.gone rfl, free_of_blk h.gone, h.d⟩

theorem ASt.upd {w w' : World} {B C D : Nat} {l0 l1 q0 q1 : Int} (h : ASt w B C D l0 l1 q0 q1) {k E : Nat} {l q v : Int} (hs : Sel k C D l0 l1 q0 q1 E l q) (hBC : B + 3 ≤ C) (hCD : C < D)
    (hg : w'.heap[B + 1 + 1]? = some (.cells ((#[.int .i64 q0, .int .i64 q1] : Array Value).setIfInBounds k (.int .i64 v)) 32 (0, 0))) (hc : Ck w' E l (min v l)) (hf : Fr (two (B + 1 + 1) E) w w') (N : Int) (b0 : q0 ≤ N) (b1 : q1 ≤ N) (bv : v ≤ N) (c0 : 0 ≤ q0) (c1 : 0 ≤ q1) (cv : 0 ≤ v) :
    ∃ q0' q1', ASt w' B C D l0 l1 q0' q1' ∧ q0' ≤ N ∧ q1' ≤ N ∧ 0 ≤ q0' ∧ 0 ≤ q1' := by
  rcases hs with ⟨rfl, rfl, rfl, rfl⟩ | ⟨rfl, rfl, rfl, rfl⟩
  · exact ⟨v, q1, ⟨hf.blk h.lim (by simp [two]; omega), hf.blk h.ptr (by simp [two]; omega), hg, hc, hf.blk h.d (by simp [two]; omega)⟩, bv, b1, cv, c1⟩
  · exact ⟨q0, v, ⟨hf.blk h.lim (by simp [two]; omega), hf.blk h.ptr (by simp [two]; omega), hg, hf.blk h.c (by simp [two]; omega), hc⟩, b0, bv, c0, cv⟩

theorem ASt.keep {w w' : World} {B C D : Nat} {l0 l1 q0 q1 : Int} (h : ASt w B C D l0 l1 q0 q1) (hf : Fr none' w w') : ASt w' B C D l0 l1 q0 q1 :=
  ⟨hf.blk h.lim id, hf.blk h.ptr id, hf.blk h.gone id, hf.blk h.c id, hf.blk h.d id⟩

theorem Sel.bds {k C D : Nat} {l0 l1 q0 q1 : Int} {E : Nat} {l q : Int} (h : Sel k C D l0 l1 q0 q1 E l q) : (l = l0 ∨ l = l1) ∧ (q = q0 ∨ q = q1) ∧ (E = C ∨ E = D) ∧ k < 2 := by
  rcases h with ⟨rfl, rfl, rfl, rfl⟩ | ⟨rfl, rfl, rfl, rfl⟩
  · exact ⟨.inl rfl, .inl rfl, .inl rfl, by omega⟩
  · exact ⟨.inr rfl, .inr rfl, .inr rfl, by omega⟩

set_option maxRecDepth 100000 in
set_option maxHeartbeats 1000000 in
theorem apart_walk (la lb : Int) (a : Option Addr) (len cap : Nat) (f : Nat → Int) (W : World) (hl : IntsAt W a len f) (hm : len ≤ 9223372036854775807) :
    Calls Try.prog 4 #[.int .i64 la, .int .i64 lb, .slice a len cap] W fun e w' => e = .returned (.bool true) ∧ Below W.heap.size W w' := by
  go_enter Try.func4, Try.ntmps4
  go_wp2_with fail
  refine (bring_ex la 1000 _ (by omega) (by omega)).mono ?_
  rintro e w' ⟨n, rfl, i0, i1, _, rfl⟩
  go_wp2_with fail
  refine (bring_ex lb 1000 _ (by omega) (by omega)).mono ?_
  rintro e w' ⟨m, rfl, j0, j1, _, rfl⟩
  go_wp2_with fail
  obtain ⟨w0, hw0⟩ : ∃ w0, w0 = ((W.alloc (Obj.cells #[Value.int IntKind.i64 (1 + n), Value.int IntKind.i64 (1 + m)] 32)).alloc (Obj.cells #[Value.pointer none, Value.pointer none] 33)).alloc (Obj.cells #[Value.int IntKind.i64 0, Value.int IntKind.i64 0] 32) := ⟨_, rfl⟩
  have l0 : w0.heap[W.heap.size]? = some (.cells #[.int .i64 (1 + n), .int .i64 (1 + m)] 32 (0, 0)) := by rw [hw0]; (repeat (first | rw [blk_drew] | rw [blk_drewN] | rw [blk_alloc_old (by first | omega | (simp; done) | (simp; omega))] | rw [blk_set_other (by first | omega | (simp; done) | (simp; omega))] | rw [blk_alloc_new (by first | omega | (simp; done) | (simp; omega))]))
  have p0 : w0.heap[W.heap.size + 1]? = some (.cells #[.pointer none, .pointer none] 33 (0, 0)) := by rw [hw0]; (repeat (first | rw [blk_drew] | rw [blk_drewN] | rw [blk_alloc_old (by first | omega | (simp; done) | (simp; omega))] | rw [blk_set_other (by first | omega | (simp; done) | (simp; omega))] | rw [blk_alloc_new (by first | omega | (simp; done) | (simp; omega))]))
  have q0 : w0.heap[W.heap.size + 1 + 1]? = some (.cells #[.int .i64 0, .int .i64 0] 32 (0, 0)) := by rw [hw0]; (repeat (first | rw [blk_drew] | rw [blk_drewN] | rw [blk_alloc_old (by first | omega | (simp; done) | (simp; omega))] | rw [blk_set_other (by first | omega | (simp; done) | (simp; omega))] | rw [blk_alloc_new (by first | omega | (simp; done) | (simp; omega))]))
  have f0 : Fr none' W w0 := by rw [hw0]; (repeat (first | exact Fr.refl _ _ | assumption | apply Fr.drew | apply Fr.drewN | apply Fr.alloc | (refine Fr.setCell ?_ _ _ (by first | exact .inr rfl | (left; simp; done) | (left; simp; omega) | (right; simp [one, two]; done)))))
  have s0 : w0.heap.size = W.heap.size + 3 := by rw [hw0]; simp
  rw [← hw0]
  clear hw0
  have s0' : W.heap.size + 3 ≤ w0.heap.size := by omega
  clear s0
  have cl0 : w0.cell? ⟨W.heap.size, 0, none⟩ = some (.int .i64 (1 + n)) := cell_of_blk l0 rfl
  refine wp_loop_rounds 3 ?_
  rw [rounds_succ]
  go_wp2_with fail
  refine (new_ex _ _ (by omega) (by omega)).mono ?_
  rintro e w1 ⟨C, rfl, hC, k1, f1⟩
  have l1 := f1.blk l0 id
  have p1 := f1.blk p0 id
  have q1 := f1.blk q0 id
  have s1 := f1.size
  clear cl0
  have cp1 : w1.cell? ⟨W.heap.size + 1, 0, none⟩ = some (.pointer none) := cell_of_blk p1 rfl
  have cf1 := free_of_blk (o := 0) p1
  go_wp2_with fail
  rw [rounds_succ]
  obtain ⟨w2, hw2⟩ : ∃ w2, w2 = w1.setCell ⟨W.heap.size + 1, 0, none⟩ (.pointer (some ⟨C, 0, none⟩)) := ⟨_, rfl⟩
  rw [← hw2]
  have l2 : w2.heap[W.heap.size]? = some (.cells #[.int .i64 (1 + n), .int .i64 (1 + m)] 32 (0, 0)) := by rw [hw2]; (repeat (first | rw [blk_drew] | rw [blk_drewN] | rw [blk_alloc_old (by first | omega | (simp; done) | (simp; omega))] | rw [blk_set_other (by first | omega | (simp; done) | (simp; omega))] | rw [blk_alloc_new (by first | omega | (simp; done) | (simp; omega))])); exact l1
  have p2 : w2.heap[W.heap.size + 1]? = some (.cells #[.pointer (some ⟨C, 0, none⟩), .pointer none] 33 (0, 0)) := by rw [hw2]; (repeat (first | rw [blk_drew] | rw [blk_drewN] | rw [blk_set_at p1 rfl] | rw [blk_alloc_old (by first | omega | (simp; done) | (simp; omega))] | rw [blk_set_other (by first | omega | (simp; done) | (simp; omega))] | rw [blk_alloc_new (by first | omega | (simp; done) | (simp; omega))])); rfl
  have q2 : w2.heap[W.heap.size + 1 + 1]? = some (.cells #[.int .i64 0, .int .i64 0] 32 (0, 0)) := by rw [hw2]; (repeat (first | rw [blk_drew] | rw [blk_drewN] | rw [blk_alloc_old (by first | omega | (simp; done) | (simp; omega))] | rw [blk_set_other (by first | omega | (simp; done) | (simp; omega))] | rw [blk_alloc_new (by first | omega | (simp; done) | (simp; omega))])); exact q1
  have k2 : Ck w2 C (1 + n) 0 := by rw [hw2]; unfold Ck; rw [blk_set_other (by show C ≠ W.heap.size + 1; omega)]; exact k1
  have f2 : Fr none' W w2 := by rw [hw2]; exact (f0.trans f1 (fun _ _ h => h)).setCell _ _ (.inl (by simp))
  have s2 : w2.heap.size = w1.heap.size := by rw [hw2]; simp
  have hlt := k2.lt
  clear hw2 f0 f1 k1 cp1 cf1 l1 p1 q1 l0 p0 q0
  have cl2 : w2.cell? ⟨W.heap.size, 1, none⟩ = some (.int .i64 (1 + m)) := cell_of_blk l2 rfl
  go_wp2_with fail
  refine (new_ex _ _ (by omega) (by omega)).mono ?_
  rintro e w3 ⟨D, rfl, hD, d3, f3⟩
  have l3 := f3.blk l2 id
  have p3 := f3.blk p2 id
  have q3 := f3.blk q2 id
  have s3 := f3.size
  have k3 := k2.keep f3 id
  clear cl2
  have cp3 : w3.cell? ⟨W.heap.size + 1, 1, none⟩ = some (.pointer none) := cell_of_blk p3 rfl
  have cf3 := free_of_blk (o := 1) p3
  go_wp2_with fail
  rw [rounds_succ]
  obtain ⟨w4, hw4⟩ : ∃ w4, w4 = w3.setCell ⟨W.heap.size + 1, 1, none⟩ (.pointer (some ⟨D, 0, none⟩)) := ⟨_, rfl⟩
  rw [← hw4]
  obtain ⟨x0, hx0⟩ : ∃ x, x = 1 + n := ⟨_, rfl⟩
  obtain ⟨x1, hx1⟩ : ∃ x, x = 1 + m := ⟨_, rfl⟩
  have A : ASt w4 W.heap.size C D x0 x1 0 0 := by
    rw [hw4, hx0, hx1]
    refine ⟨?_, ?_, ?_, ?_, ?_⟩
    · (repeat (first | rw [blk_drew] | rw [blk_drewN] | rw [blk_alloc_old (by first | omega | (simp; done) | (simp; omega))] | rw [blk_set_other (by first | omega | (simp; done) | (simp; omega))] | rw [blk_alloc_new (by first | omega | (simp; done) | (simp; omega))])); exact l3
    · (repeat (first | rw [blk_drew] | rw [blk_drewN] | rw [blk_set_at p3 rfl] | rw [blk_alloc_old (by first | omega | (simp; done) | (simp; omega))] | rw [blk_set_other (by first | omega | (simp; done) | (simp; omega))] | rw [blk_alloc_new (by first | omega | (simp; done) | (simp; omega))])); rfl
    · (repeat (first | rw [blk_drew] | rw [blk_drewN] | rw [blk_alloc_old (by first | omega | (simp; done) | (simp; omega))] | rw [blk_set_other (by first | omega | (simp; done) | (simp; omega))] | rw [blk_alloc_new (by first | omega | (simp; done) | (simp; omega))])); exact q3
    · unfold Ck; rw [blk_set_other (by show C ≠ W.heap.size + 1; omega), show min 0 (1 + n) = 0 by omega]; exact k3
    · unfold Ck; rw [blk_set_other (by show D ≠ W.heap.size + 1; omega), show min 0 (1 + m) = 0 by omega]; exact d3
  have f4 : Fr none' W w4 := by rw [hw4]; exact (f2.trans f3 (fun _ _ h => h)).setCell _ _ (.inl (by simp))
  have B4 : Below W.heap.size W w4 := f4.below (Nat.le_refl _) (fun _ h => h.elim)
  clear hw4 f2 f3 f4 k2 k3 l2 l3 p2 p3 q2 q3 cp3 cf3 d3
  have x00 : 1 ≤ x0 := by omega
  have x01 : x0 ≤ 1000 := by omega
  have x10 : 1 ≤ x1 := by omega
  have x11 : x1 ≤ 1000 := by omega
  have hBC : W.heap.size + 3 ≤ C := by omega
  have hCD : C < D := by omega
  clear s0' s1 s2 s3 hlt hC hD
  go_wp2_with fail
  rw [← hx0, ← hx1]
  clear hx0 hx1 i0 i1 j0 j1
  go_loopw [13] (fun i wr => ∃ k : Nat, i = .int .i64 k ∧ k ≤ len ∧ k ≤ 300 ∧ (∃ q0 q1, ASt wr W.heap.size C D x0 x1 q0 q1 ∧ q0 ≤ k ∧ q1 ≤ k ∧ 0 ≤ q0 ∧ 0 ≤ q1) ∧ Below W.heap.size W wr) (fun i _ => 300 - (intOf i).toNat)
  case atStart => exact ⟨0, rfl, by omega, by omega, ⟨0, 0, A, by omega, by omega, by omega, by omega⟩, B4⟩
  case round =>
    obtain ⟨t, rfl, hk, hk5, ⟨q0, q1, Ar, a0, a1, a2, a3⟩, br⟩ := hrel
    clear A B4
    by_cases hlt : t < len ∧ t < 300
    · obtain ⟨hlt, hlt5⟩ := hlt
      obtain ⟨b, off, rfl, hb, hc, hcb⟩ := hl t hlt
      have hx := (br.cell (p := ⟨b, off + t, none⟩) hb).trans (hc t hlt)
      obtain ⟨x, hx'⟩ : ∃ x, f t = x := ⟨_, rfl⟩
      have hxb := hcb t hlt
      rw [hx'] at hx hxb
      obtain ⟨xb0, xb1⟩ := hxb
      clear hx' hc hcb
      go_wp2_with fail
      refine (bring_ex x 2 _ (by omega) (by omega)).mono ?_
      rintro e w' ⟨k, rfl, y0, y1, _, rfl⟩
      obtain ⟨k, rfl⟩ := Int.eq_ofNat_of_zero_le y0
      have hk2 : k < 2 := by omega
      go_wp2_with fail
      refine (bring_ex _ 9 _ (by omega) (by omega)).mono ?_
      rintro e w' ⟨z, rfl, z0, z1, _, rfl⟩
      obtain ⟨E, l, q, hs, c1, c2, c3, c4, kk⟩ := Ar.get hk2
      obtain ⟨sl, sq, sE, _⟩ := hs.bds
      have hs' := Lib.hid hs
      clear hs
      by_cases hz : z = 0
      case' pos =>
        subst hz
        go_wp2_with fail
        refine (reset_any _ _ _ _ (by omega) kk).mono ?_
        rintro e w5 ⟨rfl, k5, f5⟩
        have g5 := f5.blk Ar.gone (by simp [one]; omega)
        clear c1 c2 c3 c4
        have c3 : ∃ v, w5.cell? ⟨W.heap.size + 1 + 1, k, none⟩ = some v := by
          obtain rfl | rfl : k = 0 ∨ k = 1 := by omega
          · exact ⟨_, cell_of_blk g5 rfl⟩
          · exact ⟨_, cell_of_blk g5 rfl⟩
        obtain ⟨v, c3⟩ := c3
        have c4 := free_of_blk (o := k) g5
        go_wp2_with fail
        obtain ⟨w6, hw6⟩ : ∃ w6, w6 = w5.setCell ⟨W.heap.size + 1 + 1, k, none⟩ (.int .i64 0) := ⟨_, rfl⟩
        rw [← hw6]
        have F6 : Fr (two (W.heap.size + 1 + 1) E) wr w6 := by
          rw [hw6]
          exact (f5.mono (fun _ _ h => .inr h)).setCell _ _ (.inr (.inl rfl))
        have U := Ar.upd (w' := w6) (v := 0) hs'.out hBC hCD (by rw [hw6, blk_set_at g5 rfl]) (by
            have k5' : Ck w5 E l (min 0 l) := by rw [show min 0 l = 0 by omega]; exact k5
            rw [hw6]; unfold Ck; rw [blk_set_other (by show E ≠ W.heap.size + 1 + 1; omega)]; exact k5') F6 (t + 1) (by omega) (by omega) (by omega) a2 a3 (by omega)
        have B6 : Below W.heap.size W w6 := br.trans (F6.below br.size (by rintro i (rfl | rfl) <;> omega))
        clear hw6 g5 c3 c4 k5 f5 F6
      case' neg =>
        have hz' : (z == 0) = false := by simpa using hz
        go_wp2_with fail
        obtain ⟨w5, hw5⟩ : ∃ w5, w5 = wr.setCell ⟨W.heap.size + 1 + 1, k, none⟩ (.int .i64 (q + 1)) := ⟨_, rfl⟩
        rw [← hw5]
        have k5 : Ck w5 E l (min q l) := by rw [hw5]; unfold Ck; rw [blk_set_other (by show E ≠ W.heap.size + 1 + 1; omega)]; exact kk
        have g5 : w5.heap[W.heap.size + 1 + 1]? = some (.cells ((#[.int .i64 q0, .int .i64 q1] : Array Value).setIfInBounds k (.int .i64 (q + 1))) 32 (0, 0)) := by rw [hw5, blk_set_at Ar.gone rfl]
        have F5 : Fr (two (W.heap.size + 1 + 1) E) wr w5 := by
          rw [hw5]
          exact (Fr.refl _ _).setCell _ _ (.inr (.inl rfl))
        have d1 : w5.cell? ⟨W.heap.size, k, none⟩ = some (.int .i64 l) := by rw [hw5, World.cell?_setCell_other _ _ _ _ (by simp)]; exact c1
        have d2 : w5.cell? ⟨W.heap.size + 1, k, none⟩ = some (.pointer (some ⟨E, 0, none⟩)) := by rw [hw5, World.cell?_setCell_other _ _ _ _ (by simp)]; exact c2
        have d3 : w5.cell? ⟨W.heap.size + 1 + 1, k, none⟩ = some (.int .i64 (q + 1)) := by rw [hw5, World.cell?_setCell_same _ _ _ c3]
        have hq0 : 0 ≤ q := by omega
        have e1 : tk l (min q l) = min (q + 1) l := by unfold tk; split <;> omega
        have e2 : (min (q + 1) l == l) = decide (l ≤ q + 1) := by
          by_cases h : l ≤ q + 1
          · simp [h]; omega
          · simp [h]; omega
        have t := fun (w : World) (h : Ck w E l (min q l)) => tick_to h (min (q + 1) l) (decide (l ≤ q + 1)) ⟨by omega, by omega, by omega, by omega, e1, e2⟩
        have t' := Lib.hid t
        clear t e1 e2 c1 c2 c3 c4 hw5
        have sz : W.heap.size + 3 ≤ w5.heap.size := by have := k5.lt; omega
        have sL : W.heap.size < w5.drew.heap.size := by simp; omega
        have sP : W.heap.size + 1 < w5.drew.heap.size := by simp; omega
        have sG : W.heap.size + 1 + 1 < w5.drew.heap.size := by simp; omega
        have nL : ¬ one E W.heap.size := by simp [one]; omega
        have nP : ¬ one E (W.heap.size + 1) := by simp [one]; omega
        have nG : ¬ one E (W.heap.size + 1 + 1) := by simp [one]; omega
        go_region_held3 (fun w' => w'.cell? ⟨W.heap.size, k, none⟩ = some (.int .i64 l) ∧ w'.cell? ⟨W.heap.size + 1, k, none⟩ = some (.pointer (some ⟨E, 0, none⟩)) ∧ w'.cell? ⟨W.heap.size + 1 + 1, k, none⟩ = some (.int .i64 (q + 1)) ) (first | exact ⟨d1, d2, d3⟩ | exact ⟨u1, u2, u3⟩)
          (first | (go_at_call 10; refine (t'.out w5.drew k5).mono ?_; rintro e w6 ⟨rfl, k6, f6⟩; have u1 := (f6.cell (p := ⟨W.heap.size, k, none⟩) sL nL).trans d1; have u2 := (f6.cell (p := ⟨W.heap.size + 1, k, none⟩) sP nP).trans d2; have u3 := (f6.cell (p := ⟨W.heap.size + 1 + 1, k, none⟩) sG nG).trans d3))
        go_wp2_with fail
        have F6 : Fr (two (W.heap.size + 1 + 1) E) wr w6 := (F5.drew).trans f6 (fun _ _ h => .inr h)
        have g6 : w6.heap[W.heap.size + 1 + 1]? = some (.cells ((#[.int .i64 q0, .int .i64 q1] : Array Value).setIfInBounds k (.int .i64 (q + 1))) 32 (0, 0)) := f6.blk g5 nG
        have U := Ar.upd (w' := w6) (v := q + 1) hs'.out hBC hCD g6 k6 F6 (t + 1) (by omega) (by omega) (by omega) a2 a3 (by omega)
        have B6 : Below W.heap.size W w6 := br.trans (F6.below br.size (by rintro i (rfl | rfl) <;> omega))
        clear k6 u1 u2 u3 F5 F6 g5 g6 d1 d2 d3 k5 f6 sz sL sP sG nL nP nG
      all_goals
        clear Ar a0 a1 a2 a3 br kk hx
        obtain ⟨q0', q1', A6, a0, a1, a2, a3⟩ := U
        go_loopw [15] (fun i wr => ∃ j : Nat, i = .int .i64 j ∧ j ≤ 2 ∧ ASt wr W.heap.size C D x0 x1 q0' q1' ∧ Below W.heap.size W wr) (fun i _ => 2 - (intOf i).toNat)
        case atStart => exact ⟨0, rfl, by omega, A6, B6⟩
        case round =>
          obtain ⟨j, rfl, hj, Aj, bj⟩ := hrel
          by_cases hj2 : j < 2
          · obtain ⟨E', l', q', hs2, c1, c2, c3, _, kk⟩ := Aj.get hj2
            obtain ⟨sl', sq', sE', _⟩ := hs2.bds
            clear hs2
            go_wp2_with fail
            have kk' : ∀ n, Ck (wr.drewN n) E' l' (min q' l') := fun n => by unfold Ck; rw [blk_drewN]; exact kk
            have kk'' := Lib.hid kk'
            have hwrap : IntKind.i64.wrap (l' - q') = l' - q' := by rw [IntKind.wrap_i64]; omega
            clear kk' kk
            go_quiet ((go_at_call 12; refine Calls.quiet_of (left_q _ _ _ _ ?_ ?_ ?_ ?_ (kk''.out _)); omega; omega; omega; omega))
            clear hwrap
            go_wp2_with fail
            have Fq : Fr none' wr (wr.drewN nq) := (Fr.refl none' _).drewN nq
            go_roundw
            case rel => exact ⟨j + 1, by go_num, by omega, Aj.keep Fq, bj.trans (Fq.below bj.size (fun _ h => h.elim))⟩
            case measure => simp [intOf]; omega
          · go_wp2_with fail
            go_roundw
            case rel => exact ⟨t + 1, by go_num, by omega, by omega, ⟨_, _, Aj, by omega, by omega, by omega, by omega⟩, bj⟩
            case measure => simp [intOf]; omega
    · by_cases hlt' : t < len
      · have hk5' : (300 : Int) ≤ t := by omega
        go_wp2_with fail
        refine (works_any _).mono ?_
        rintro e w3 ⟨rfl, f3⟩
        go_wp2_with fail
        go_ret
        exact ⟨rfl, br.trans (f3.below br.size (fun _ h => h.elim))⟩
      · go_wp2_with fail
        refine (works_any _).mono ?_
        rintro e w3 ⟨rfl, f3⟩
        go_wp2_with fail
        go_ret
        exact ⟨rfl, br.trans (f3.below br.size (fun _ h => h.elim))⟩

end Go.Proofs.Ytcgchngenbnhmaa
