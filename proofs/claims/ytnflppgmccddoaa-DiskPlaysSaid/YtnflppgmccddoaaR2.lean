/-
  gimbalref13's disk: Slots; rows of bytes that are turned in place.
-/
import Derived.Test.YtnflppgmccddoaaR
namespace Go.Proofs.Ytnflppgmccddoaa
set_option linter.unusedVariables false
open Go.RowKit
variable {V F : Nat → Prop}

theorem rslots_any (b : Nat) (s : DSt) (w : World) (h : Rd V F w b s) :
    Calls Try.prog 34 #[.pointer (some ⟨b, 0, none⟩)] w fun e w' => ∃ v0 v1, e = .returned (.agg #[v0, v1]) ∧ w'.ownsRow w.heap.size 5 1 v0 s.s0.length (byt s.s0) ∧ w'.ownsRow w.heap.size 5 1 v1 s.s1.length (byt s.s1) ∧ Fr none' w w' := by
  have hD := Lib.hid h
  obtain ⟨lv, v0, v1, hh, _, h0, h1, ⟨_, r0, r1⟩, _⟩ := h
  obtain ⟨a0, k0, rfl⟩ := h0.cells
  obtain ⟨a1, k1, rfl⟩ := h1.cells
  have hbw := lt_of_blk hh
  have c1 : w.cell? ⟨b, 1, none⟩ = some (.slice a0 s.s0.length k0) := cell_of_blk (o := 1) hh rfl
  have fa : Fr none' w ((w.alloc (Obj.cells #[.slice none 0 0, .slice none 0 0] 34)).alloc (Obj.cells #[.slice none 0 0, .slice none 0 0] 34)) := ((Fr.refl _ _).alloc _).alloc _
  have hfa := Lib.hid fa
  have hhh := Lib.hid hh
  clear fa hh
  go_enter Try.func34, Try.ntmps34
  go_wp2_with fail
  refine (copyBytes_any _ _ _ (h0.keep0 hfa.out) (by omega)).mono ?_
  rintro e w1 ⟨u0, rfl, o0, f1, -⟩
  simp only [World.size_alloc] at o0
  have B2 : w1.heap[w.heap.size]? = some (.cells #[.slice none 0 0, .slice none 0 0] 34 (0, 0)) := f1.blk (by (repeat (first | rw [blk_drew] | rw [blk_drewN] | rw [blk_alloc_old (by first | omega | (simp; done) | (simp; omega))] | rw [blk_set_other (by first | omega | (simp; done) | (simp; omega))] | rw [blk_alloc_new (by first | omega | (simp; done) | (simp; omega))]))) id
  have B3 : w1.heap[w.heap.size + 1]? = some (.cells #[.slice none 0 0, .slice none 0 0] 34 (0, 0)) := f1.blk (by (repeat (first | rw [blk_drew] | rw [blk_drewN] | rw [blk_alloc_old (by first | omega | (simp; done) | (simp; omega))] | rw [blk_set_other (by first | omega | (simp; done) | (simp; omega))] | rw [blk_alloc_new (by first | omega | (simp; done) | (simp; omega))]))) id
  have s1 := f1.size
  simp only [World.size_alloc] at s1
  have d0 : w1.cell? ⟨w.heap.size + 1, 0, none⟩ = some (.slice none 0 0) := cell_of_blk B3 rfl
  have z0 := free_of_blk (o := 0) B3
  obtain ⟨b0, m0, rfl⟩ := Bytes.cells (w := w1) (L := s.s0) (Sl.of_own o0)
  have n0 := ownsRow_block o0
  have hh1 := (hfa.out.trans f1 (fun _ _ h => h)).blk hhh.out id
  have c2 : w1.cell? ⟨b, 2, none⟩ = some (.slice a1 s.s1.length k1) := cell_of_blk (o := 2) hh1 rfl
  have n0h := Lib.hid n0
  have o0h := Lib.hid o0
  have B2h := Lib.hid B2
  have B3h := Lib.hid B3
  clear n0 o0 B2 B3 hh1
  have f2 : Fr none' w (w1.setCell ⟨w.heap.size + 1, 0, none⟩ (.slice b0 s.s0.length m0)) := (hfa.out.trans f1 (fun _ _ h => h)).setCell _ _ (.inl (by show w.heap.size ≤ w.heap.size + 1; omega))
  have f2h := Lib.hid f2
  clear f2
  go_wp2_with fail
  refine (copyBytes_any _ _ _ (h1.keep0 f2h.out) (by omega)).mono ?_
  rintro e w2 ⟨u1, rfl, o1, f3, -⟩
  simp only [World.size_setCell] at o1
  have C3 : w2.heap[w.heap.size + 1]? = some (.cells #[.slice b0 s.s0.length m0, .slice none 0 0] 34 (0, 0)) := f3.blk (by rw [blk_set_at B3h.out rfl]; rfl) id
  have C2 : w2.heap[w.heap.size]? = some (.cells #[.slice none 0 0, .slice none 0 0] 34 (0, 0)) := f3.blk (by rw [blk_set_other (by simp)]; exact B2h.out) id
  have e0 : w2.cell? ⟨w.heap.size + 1, 0, none⟩ = some (.slice b0 s.s0.length m0) := cell_of_blk C3 rfl
  have e1 : w2.cell? ⟨w.heap.size + 1, 1, none⟩ = some (.slice none 0 0) := cell_of_blk C3 rfl
  have y1 := free_of_blk (o := 1) C3
  have y0 := free_of_blk (o := 0) C3
  have g0 : w2.cell? ⟨w.heap.size, 0, none⟩ = some (.slice none 0 0) := cell_of_blk C2 rfl
  have g1 : w2.cell? ⟨w.heap.size, 1, none⟩ = some (.slice none 0 0) := cell_of_blk C2 rfl
  have x1 := free_of_blk (o := 1) C2
  have x0 := free_of_blk (o := 0) C2
  obtain ⟨b1, m1, rfl⟩ := Bytes.cells (w := w2) (L := s.s1) (Sl.of_own o1)
  have n1h := Lib.hid (ownsRow_block o1)
  have o1h := Lib.hid o1
  have s2 := f3.size
  simp only [World.size_setCell] at s2
  clear d0 z0 o1 C2 C3 c1 c2
  go_wp2_with fail
  refine bodyPost_ret (v := .agg #[.slice b0 s.s0.length m0, .slice b1 s.s1.length m1]) (by simp [results, Try.results34, go_sem, g0, g1]; done) rfl ⟨_, _, rfl, ?_, ?_, ?_⟩
  · have Fa : Fr (one (w.heap.size + 1)) w1 (w1.setCell ⟨w.heap.size + 1, 0, none⟩ (.slice b0 s.s0.length m0)) := (Fr.refl _ _).set1 _
    have Fx : Fr (two w.heap.size (w.heap.size + 1)) w2 (((w2.setCell ⟨w.heap.size + 1, 1, none⟩ (.slice b1 s.s1.length m1)).setCell ⟨w.heap.size, 0, none⟩ (.slice b0 s.s0.length m0)).setCell ⟨w.heap.size, 1, none⟩ (.slice b1 s.s1.length m1)) :=
      (((Fr.refl _ _).setCell _ _ (.inr (.inr rfl))).setCell _ _ (.inr (.inl rfl))).setCell _ _ (.inr (.inl rfl))
    exact ownsRow_base (ownsRow_keep (ownsRow_keep (ownsRow_keep o0h.out Fa (fun g h e => by cases e; have := (n0h.out _ h).1; omega)) f3 (fun _ _ h => h)) Fx (fun g h e => by have := (n0h.out _ h).1; rcases e with e | e <;> omega)) (by omega)
  · have Fx : Fr (two w.heap.size (w.heap.size + 1)) w2 (((w2.setCell ⟨w.heap.size + 1, 1, none⟩ (.slice b1 s.s1.length m1)).setCell ⟨w.heap.size, 0, none⟩ (.slice b0 s.s0.length m0)).setCell ⟨w.heap.size, 1, none⟩ (.slice b1 s.s1.length m1)) :=
      (((Fr.refl _ _).setCell _ _ (.inr (.inr rfl))).setCell _ _ (.inr (.inl rfl))).setCell _ _ (.inr (.inl rfl))
    exact ownsRow_base (ownsRow_keep o1h.out Fx (fun g h e => by have := (n1h.out _ h).1; rcases e with e | e <;> omega)) (by omega)
  · exact (((f2h.out.trans f3 (fun _ _ h => h)).setCell _ _ (.inl (by show w.heap.size ≤ w.heap.size + 1; omega))).setCell _ _ (.inl (Nat.le_refl _))).setCell _ _ (.inl (Nat.le_refl _))

/-- A number of a row that is the call's own is turned. -/
theorem ownsRow_set {w : World} {base e g n cap : Nat} {cs : List Value} (h : w.ownsRow base e 1 (.slice (some ⟨g, 0, none⟩) n cap) n cs) (k : Nat) (hk : k < n) (u : Value) :
    (w.setCell ⟨g, k, none⟩ u).ownsRow base e 1 (.slice (some ⟨g, 0, none⟩) n cap) n (cs.set k u) := by
  obtain ⟨hl, h⟩ := h
  rcases h with ⟨h, _⟩ | ⟨g', cap', cur, he, hg, hh, h1, h2, h3, h4⟩
  · cases h
  · injection he with e1 e2 e3
    injection e1 with e1
    injection e1 with e1
    subst e1; subst e3
    refine ⟨by simpa using hl, .inr ⟨g, cap, cur.setIfInBounds k u, rfl, hg, by rw [blk_set_at hh rfl], h1, h2, by simpa using h3, ?_⟩⟩
    rw [← h4]
    simp [List.take_set]

/-- All cells are numbers of eight bits. -/
def Bs (cs : List Value) : Prop := ∀ u ∈ cs, ∃ x, u = .int .u8 x
theorem Bs.byt (L : List UInt8) : Bs (byt L) := fun u hu => by
  obtain ⟨x, _, rfl⟩ := List.mem_map.1 hu
  exact ⟨_, rfl⟩
theorem Bs.set {cs : List Value} (h : Bs cs) (k : Nat) (x : Int) : Bs (cs.set k (.int .u8 x)) := fun u hu => by
  rcases List.mem_or_eq_of_mem_set hu with h' | h'
  · exact h u h'
  · exact ⟨_, h'⟩

/-- Numbers at v, the call's own, and what a call has turned since w0: v's block alone. -/
def Turn (base : Nat) (v : Value) (n : Nat) (w0 w : World) : Prop := (∃ cs, w.ownsRow base 5 1 v n cs ∧ Bs cs) ∧ Fr (fun i => v.ownBlock = some i) w0 w
theorem Turn.start {base : Nat} {v : Value} {w : World} {L : List UInt8} (h : w.ownsRow base 5 1 v L.length (byt L)) : Turn base v L.length w w := ⟨⟨_, h, Bs.byt L⟩, Fr.refl _ _⟩
theorem Turn.drew {base : Nat} {v : Value} {n : Nat} {w0 w : World} (h : Turn base v n w0 w) : Turn base v n w0 w.drew := by
  obtain ⟨⟨cs, hl, hb⟩, f⟩ := h
  exact ⟨⟨cs, ownsRow_keep hl (Fr.refl none' w).drew (fun _ _ h => h), hb⟩, f.drew⟩
theorem Turn.cell {base : Nat} {v : Value} {n : Nat} {w0 w : World} (h : Turn base v n w0 w) (k : Nat) (hk : k < n) : ∃ g cap x, v = .slice (some ⟨g, 0, none⟩) n cap ∧ w.cell? ⟨g, k, none⟩ = some (.int .u8 x) ∧ w.frozen? ⟨g, k, none⟩ = false ∧
    ∀ y, Turn base v n w0 (w.setCell ⟨g, k, none⟩ (.int .u8 y)) := by
  obtain ⟨⟨cs, hl, hb⟩, f⟩ := h
  have hl' := hl
  obtain ⟨hlen, hl⟩ := hl
  rcases hl with ⟨rfl, rfl⟩ | ⟨g, cap, cur, rfl, hg, hh, h1, h2, h3, h4⟩
  · omega
  · have hc : cs[k]? = cur[k]? := by
      rw [← h4, List.getElem?_take, if_pos (by omega)]
      simp
    have hk' : k < cs.length := by omega
    obtain ⟨x, hx⟩ := hb cs[k] (List.getElem_mem hk')
    rw [List.getElem?_eq_getElem hk', hx] at hc
    exact ⟨g, cap, x, rfl, cell_of_blk hh hc.symm, free_of_blk hh, fun y => ⟨⟨_, ownsRow_set hl' k hk _, hb.set k y⟩, f.setCell _ _ (.inr rfl)⟩⟩

end Go.Proofs.Ytnflppgmccddoaa
