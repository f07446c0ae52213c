/-
  gimballaw13.part and gimballaw13.step.
-/
import Derived.Test.YtnflppgmccddoaaS
import Derived.Outline
import Derived.Deep.CutBlock
namespace Go.Proofs.Ytnflppgmccddoaa
set_option linter.unusedVariables false
set_option linter.unusedSimpArgs false
open Go.RowKit
variable {V F : Nat → Prop}

def partN (raw : Bool) (n : Int) (many : Nat) : Int := if raw then n else n % ((many : Int) + 1)

theorem part_any (k n : Int) (a : Option Addr) (len cap : Nat) (raw : Bool) (many : Nat) (w : World) (hm : many ≤ 1048576) :
    Calls Try.prog 28 #[.agg #[.int .i64 k, .int .i64 n, .slice a len cap, .bool raw], .int .i64 (many : Int)] w fun e w' => e = .returned (.int .i64 (partN raw n many)) ∧ Fr none' w w' := by
  have fa : Fr none' w (w.alloc (.cells #[.int .i64 k, .int .i64 n, .slice a len cap, .bool raw] 29)) := (Fr.refl _ _).alloc _
  have hw : IntKind.i64.wrap ((many : Int) + 1) = (many : Int) + 1 := by rw [IntKind.wrap_i64]; omega
  have hfa := Lib.hid fa
  clear fa
  cases raw
  · unfold partN
    rw [if_neg (by simp)]
    go_enter Try.func28, Try.ntmps28
    go_wp2_with fail
    refine (bring_ex _ _ _ (by omega) (by omega)).mono ?_
    rintro e w' ⟨m, rfl, m0, m1, hm, rfl⟩
    go_wp2_with fail
    go_ret
    exact ⟨by rw [hm.out]; rfl, hfa.out⟩
  · unfold partN
    rw [if_pos rfl]
    go_enter Try.func28, Try.ntmps28
    go_wp2_with fail
    go_ret
    exact ⟨rfl, hfa.out⟩

/-- What stands while a call of both is made. -/
structure SK (V F : Nat → Prop) (x b bx : Nat) (sx sm : DSt) (box : Array Value) (vB : Value) (LB : List UInt8) (w0 w : World) : Prop where
  dk : Dk (fun i => F i ∨ V i) w x sx
  rd : Rd V F w b sm
  row : w.heap[bx]? = some (.cells box 29 (0, 0))
  bs : Bytes w vB LB
  off : Off F vB
  fr : Fr (fun i => i = x ∨ F i) w0 w
  nx : ¬ F x ∧ bx ≠ x ∧ ¬ F bx

theorem SK.keep0 {x b bx : Nat} {sx sm : DSt} {box : Array Value} {vB : Value} {LB : List UInt8} {w0 w w' : World} (h : SK V F x b bx sx sm box vB LB w0 w) (f : Fr none' w w') : SK V F x b bx sx sm box vB LB w0 w' :=
  ⟨h.dk.keep0 f, h.rd.keep0 f, f.blk h.row id, h.bs.keep0 f, h.off, h.fr.trans f (fun _ _ h => h.elim), h.nx⟩
/-- The program's disk takes a step. -/
theorem SK.stepx {x b bx : Nat} {sx sm sx' : DSt} {box : Array Value} {vB : Value} {LB : List UInt8} {w0 w w' : World} (h : SK V F x b bx sx sm box vB LB w0 w) (hd : Dk (fun i => F i ∨ V i) w' x sx') (f : Fr (one x) w w') : SK V F x b bx sx' sm box vB LB w0 w' :=
  ⟨hd, h.rd.keep f (fun i e => by cases e; exact h.nx.1) h.dk.noByte, f.blk h.row (fun e => h.nx.2.1 e), h.bs.keep f (fun b hb hS => (h.dk.noByte b hb hS).1), h.off, h.fr.trans f (fun i _ e => .inl e), h.nx⟩

/-- The box's cells. -/
theorem four {w : World} {g : Nat} {k n : Int} {v : Value} {raw : Bool} (h : w.heap[g]? = some (.cells #[.int .i64 k, .int .i64 n, v, .bool raw] 29 (0, 0))) :
    w.cell? ⟨g, 0, none⟩ = some (.int .i64 k) ∧ w.cell? ⟨g, 1, none⟩ = some (.int .i64 n) ∧ w.cell? ⟨g, 2, none⟩ = some v ∧ w.cell? ⟨g, 3, none⟩ = some (.bool raw) :=
  ⟨cell_of_blk (o := 0) h rfl, cell_of_blk (o := 1) h rfl, cell_of_blk (o := 2) h rfl, cell_of_blk (o := 3) h rfl⟩

def SPost (V F : Nat → Prop) (x b : Nat) (w0 w' : World) : Prop :=
  ∃ F' s', (∀ i, F' i → F i ∨ w0.heap.size ≤ i) ∧ Dk (fun i => F' i ∨ V i) w' x s' ∧ Rd V F' w' b s' ∧ Fr (fun i => i = x ∨ F i) w0 w'

/-- The reference's disk takes it, too. -/
theorem SK.finish {x b bx : Nat} {s sm : DSt} {box : Array Value} {vB : Value} {LB : List UInt8} {w0 w w' : World} (h : SK V F x b bx s sm box vB LB w0 w) {F' : Nat → Prop} (hs : ∀ i, F' i → F i ∨ w.heap.size ≤ i) (hr : Rd V F' w' b s) (f : Fr F w w') : SPost V F x b w0 w' := by
  refine ⟨F', s, fun i hi => ?_, h.dk.move (f.mono (fun i _ e => .inl e)) (fun i hi => ?_), hr, h.fr.trans f (fun i _ e => .inr e)⟩
  · rcases hs i hi with h' | h'
    · exact .inl h'
    · exact .inr (Nat.le_trans h.fr.size h')
  · rcases hi with hi | hi
    · refine ⟨?_, hr.old.2 i hi⟩
      rcases hs i hi with h' | h'
      · exact .inl (.inl h')
      · exact .inr h'
    · exact ⟨.inl (.inr hi), hr.old.1 i hi⟩

set_option maxRecDepth 100000 in
set_option maxHeartbeats 4000000 in
theorem step_any (x b : Nat) (s : DSt) (k n : Int) (raw : Bool) (vB : Value) (LB : List UInt8) (w : World) (hx : Dk F w x s) (hm : Rd none' F w b s) (hB : Bytes w vB LB) (hO : Off F vB) (hlen : LB.length ≤ 300) (hn : -9223372036854775808 ≤ n ∧ n ≤ 9223372036854775807) :
    Calls Try.prog 11 #[.pointer (some ⟨x, 0, none⟩), .pointer (some ⟨b, 0, none⟩), .agg #[.int .i64 k, .int .i64 n, vB, .bool raw]] w fun e w' => e = .returned (.bool true) ∧
      ∃ F' s', (∀ i, F' i → F i ∨ w.heap.size ≤ i) ∧ Dk F' w' x s' ∧ Rd none' F' w' b s' ∧ Fr (fun i => i = x ∨ F i) w w' := by
  obtain ⟨aB, cB, rfl⟩ := hB.cells
  have fa : Fr none' w (w.alloc (.cells #[.int .i64 k, .int .i64 n, .slice aB LB.length cB, .bool raw] 29)) := (Fr.refl _ _).alloc _
  have hfa := Lib.hid fa
  have hxl := hx.lt
  have hFo := Lib.hid hm.old.2
  have hB1 := hB.keep0 fa
  clear fa
  go_enter Try.func11, Try.ntmps11
  go_wp2_with fail
  refine (copyBytes_any _ LB _ hB1 (by omega)).mono ?_
  rintro e w1 ⟨v7, rfl, o7, f1, -⟩
  have q1 := f1.blk (k := w.heap.size) (o := .cells #[.int .i64 k, .int .i64 n, .slice aB LB.length cB, .bool raw] 29) (by (repeat (first | rw [blk_drew] | rw [blk_drewN] | rw [blk_alloc_old (by first | omega | (simp; done) | (simp; omega))] | rw [blk_set_other (by first | omega | (simp; done) | (simp; omega))] | rw [blk_alloc_new (by first | omega | (simp; done) | (simp; omega))]))) id
  have h7 := ownsRow_block o7
  simp only [World.size_alloc] at h7 o7
  have F1 := hfa.out.trans f1 (fun _ _ h => h)
  have K : SK (fun i => v7.ownBlock = some i) F x b w.heap.size s s #[.int .i64 k, .int .i64 n, .slice aB LB.length cB, .bool raw] (.slice aB LB.length cB) LB w w1 := by
    refine ⟨hx.shift F1 (fun i hi => ?_), hm.shift F1 (fun i hi => ⟨.inr (by have := (h7 i hi).1; omega), (h7 i hi).2⟩), q1, hB.keep0 F1, hO, F1.mono (fun _ _ h => h.elim), fun e => hx.apart _ e rfl, by omega, fun e => by have := hm.old.2 _ e; omega⟩
    rcases hi with hi | hi
    · exact ⟨.inl hi, Nat.lt_of_lt_of_le (hm.old.2 i hi) F1.size⟩
    · exact ⟨.inr (by have := (h7 i hi).1; omega), (h7 i hi).2⟩
  have o7h := Lib.hid o7
  have h7h := Lib.hid h7
  obtain ⟨a7, c7, rfl⟩ := Bytes.cells (w := w1) (L := LB) (Sl.of_own o7)
  have y1 : w1.cell? ⟨w.heap.size, 1, none⟩ = some (.int .i64 n) := cell_of_blk (o := 1) q1 rfl
  clear hx hm hB hO hB1 f1 q1 o7 h7
  have y3 : w1.cell? ⟨w.heap.size, 3, none⟩ = some (.bool raw) := cell_of_blk (o := 3) K.row rfl
  go_upto_region 2 with fail
  go_quiet ((first | (go_at_call 16; exact Calls.quiet_of_same (bring_q _ _ _ (by decide) (by decide)))))
  go_upto_if 22 with fail
  go_cut [8, 9] (fun s8 s9 w' => s8 = .int .i64 (if raw then n else n % 2) ∧ s9 = .int .i64 (if raw then n else n % 20) ∧ Fr none' w1 w')
  case first =>
    cases raw
    · go_wp2_with fail
      go_meet
      exact ⟨rfl, rfl, (Fr.refl _ _).drewN _⟩
    · go_wp2_with fail
      go_region
      go_wp2_with fail
      go_meet
      exact ⟨rfl, rfl, ((Fr.refl _ _).drewN _).drew⟩
  case rest =>
    obtain ⟨w2, rfl⟩ : ∃ w2, w2 = wc := ⟨_, rfl⟩
    obtain ⟨rfl, rfl, f2⟩ := hcut
    obtain ⟨n8, h8⟩ : ∃ n8 : Int, n8 = if raw then n else n % 2 := ⟨_, rfl⟩
    obtain ⟨n9, h9⟩ : ∃ n9 : Int, n9 = if raw then n else n % 20 := ⟨_, rfl⟩
    rw [← h8, ← h9]
    have hn9 : n9 ≤ 9223372036854775807 := by
      have := Int.emod_lt_of_pos n (show (0 : Int) < 20 by decide)
      rw [h9]; split <;> omega
    have K2' := K.keep0 f2
    have K2 : SK (fun i => (Value.slice a7 LB.length c7).ownBlock = some i) F x b w.heap.size s s #[.int .i64 k, .int .i64 n, .slice aB LB.length cB, .bool raw] (.slice aB LB.length cB) LB w2 w2 := ⟨K2'.dk, K2'.rd, K2'.row, K2'.bs, K2'.off, Fr.refl _ _, K2'.nx⟩
    clear K2'
    have F2 := F1.trans f2 (fun _ _ h => h)
    have y0 : w2.cell? ⟨w.heap.size, 0, none⟩ = some (.int .i64 k) := cell_of_blk (o := 0) K2.row rfl
    have L7 := Lib.hid (ownsRow_keep o7h.out f2 (fun _ _ h => h))
    clear h8 h9 y1 y3 K f2 F1 o7h
    go_wp2_with fail
    refine (bring_ex _ _ _ (by omega) (by omega)).mono ?_
    rintro e w' ⟨kd, rfl, kd0, kd1, -, rfl⟩
    go_upto_block 0 with fail
    go_cut [10] (fun s10 w' => s10 = .bool true ∧ SPost (fun i => (Value.slice a7 LB.length c7).ownBlock = some i) F x b w2 w')
    case first =>
      rcases (show kd = 0 ∨ kd = 1 ∨ kd = 2 ∨ kd = 3 ∨ kd = 4 ∨ kd = 5 ∨ kd = 6 ∨ kd = 7 ∨ kd = 8 ∨ kd = 9 by omega) with rfl | rfl | rfl | rfl | rfl | rfl | rfl | rfl | rfl | rfl
      · clear kd0 kd1
        go_wp2_with fail
        have K2d := K2.keep0 (Fr.refl none' w2).drew
        have i2 : Bytes w2.drew (.slice a7 LB.length c7) LB := Sl.of_own L7.out
        have y2 : w2.drew.cell? ⟨w.heap.size, 2, none⟩ = some (.slice aB LB.length cB) := cell_of_blk (o := 2) K2d.row rfl
        clear y0
        go_region_held3 (fun w' => w'.cell? ⟨w.heap.size, 2, none⟩ = some (.slice aB LB.length cB)) (first | exact y2 | exact y2' | exact y2'')
          (first
            | (go_at_call 24; refine (append_any _ _ _ LB _ K2d.dk i2 (by omega)).mono ?_; rintro e w3 ⟨rfl, d3, f3⟩; have K3 := K2d.stepx d3 f3; have y2' : w3.cell? ⟨w.heap.size, 2, none⟩ = some (.slice aB LB.length cB) := cell_of_blk (o := 2) K3.row rfl)
            | (go_at_call 33; refine (rappend_any _ _ _ LB _ K3.rd K3.bs (by omega)).mono ?_; rintro e w4 ⟨rfl, F', hs4, r4, f4⟩; have y2'' : w4.cell? ⟨w.heap.size, 2, none⟩ = some (.slice aB LB.length cB) := cell_of_blk (o := 2) (f4.blk K3.row K3.nx.2.2) rfl))
        have hfin := Lib.hid (K3.finish hs4 r4 f4)
        clear y2 y2' y2'' K2d K3 hs4 r4 f4
        go_wp2_with fail
        go_meet
        exact ⟨by simp, hfin.out⟩
      · clear kd0 kd1
        go_wp2_with fail
        have K2d := K2.keep0 (Fr.refl none' w2).drew
        have i2 : Bytes w2.drew (.slice a7 LB.length c7) LB := Sl.of_own L7.out
        have y2 : w2.drew.cell? ⟨w.heap.size, 2, none⟩ = some (.slice aB LB.length cB) := cell_of_blk (o := 2) K2d.row rfl
        clear y0
        go_region_held3 (fun w' => w'.cell? ⟨w.heap.size, 2, none⟩ = some (.slice aB LB.length cB)) (first | exact y2 | exact y2' | exact y2'')
          (first
            | (go_at_call 24; refine (append_any _ _ _ LB _ K2d.dk i2 (by omega)).mono ?_; rintro e w3 ⟨rfl, d3, f3⟩; have K3 := K2d.stepx d3 f3; have y2' : w3.cell? ⟨w.heap.size, 2, none⟩ = some (.slice aB LB.length cB) := cell_of_blk (o := 2) K3.row rfl)
            | (go_at_call 33; refine (rappend_any _ _ _ LB _ K3.rd K3.bs (by omega)).mono ?_; rintro e w4 ⟨rfl, F', hs4, r4, f4⟩; have y2'' : w4.cell? ⟨w.heap.size, 2, none⟩ = some (.slice aB LB.length cB) := cell_of_blk (o := 2) (f4.blk K3.row K3.nx.2.2) rfl))
        have hfin := Lib.hid (K3.finish hs4 r4 f4)
        clear y2 y2' y2'' K2d K3 hs4 r4 f4
        go_wp2_with fail
        go_meet
        exact ⟨by simp, hfin.out⟩
      · clear kd0 kd1
        go_wp2_with fail
        have K2d := K2.keep0 (Fr.refl none' w2).drew
        have i2 : Bytes w2.drew (.slice a7 LB.length c7) LB := Sl.of_own L7.out
        have y2 : w2.drew.cell? ⟨w.heap.size, 2, none⟩ = some (.slice aB LB.length cB) := cell_of_blk (o := 2) K2d.row rfl
        clear y0
        go_region_held3 (fun w' => w'.cell? ⟨w.heap.size, 2, none⟩ = some (.slice aB LB.length cB)) (first | exact y2 | exact y2' | exact y2'')
          (first
            | (go_at_call 24; refine (append_any _ _ _ LB _ K2d.dk i2 (by omega)).mono ?_; rintro e w3 ⟨rfl, d3, f3⟩; have K3 := K2d.stepx d3 f3; have y2' : w3.cell? ⟨w.heap.size, 2, none⟩ = some (.slice aB LB.length cB) := cell_of_blk (o := 2) K3.row rfl)
            | (go_at_call 33; refine (rappend_any _ _ _ LB _ K3.rd K3.bs (by omega)).mono ?_; rintro e w4 ⟨rfl, F', hs4, r4, f4⟩; have y2'' : w4.cell? ⟨w.heap.size, 2, none⟩ = some (.slice aB LB.length cB) := cell_of_blk (o := 2) (f4.blk K3.row K3.nx.2.2) rfl))
        have hfin := Lib.hid (K3.finish hs4 r4 f4)
        clear y2 y2' y2'' K2d K3 hs4 r4 f4
        go_wp2_with fail
        go_meet
        exact ⟨by simp, hfin.out⟩
      · clear kd0 kd1
        go_wp2_with fail
        have K2d := K2.keep0 (Fr.refl none' w2).drew
        have i2 : Bytes w2.drew (.slice a7 LB.length c7) LB := Sl.of_own L7.out
        have y2 : w2.drew.cell? ⟨w.heap.size, 2, none⟩ = some (.slice aB LB.length cB) := cell_of_blk (o := 2) K2d.row rfl
        clear y0
        go_region_held3 (fun w' => w'.cell? ⟨w.heap.size, 2, none⟩ = some (.slice aB LB.length cB)) (first | exact y2 | exact y2' | exact y2'')
          (first
            | (go_at_call 17; refine (slot_any _ _ _ _ LB _ K2d.dk i2 (by omega)).mono ?_; rintro e w3 ⟨rfl, d3, f3⟩; have K3 := K2d.stepx d3 f3; have y2' : w3.cell? ⟨w.heap.size, 2, none⟩ = some (.slice aB LB.length cB) := cell_of_blk (o := 2) K3.row rfl)
            | (go_at_call 27; refine (rslot_any _ _ _ _ LB _ K3.rd K3.bs (by omega)).mono ?_; rintro e w4 ⟨rfl, F', hs4, r4, f4⟩; have y2'' : w4.cell? ⟨w.heap.size, 2, none⟩ = some (.slice aB LB.length cB) := cell_of_blk (o := 2) (f4.blk K3.row K3.nx.2.2) rfl))
        have hfin := Lib.hid (K3.finish hs4 r4 f4)
        clear y2 y2' y2'' K2d K3 hs4 r4 f4
        go_wp2_with fail
        go_meet
        exact ⟨by simp, hfin.out⟩
      · clear kd0 kd1
        go_wp2_with fail
        have K2d := K2.keep0 (Fr.refl none' w2).drew
        have i2 : Bytes w2.drew (.slice a7 LB.length c7) LB := Sl.of_own L7.out
        have y2 : w2.drew.cell? ⟨w.heap.size, 2, none⟩ = some (.slice aB LB.length cB) := cell_of_blk (o := 2) K2d.row rfl
        clear y0
        go_region_held3 (fun w' => w'.cell? ⟨w.heap.size, 2, none⟩ = some (.slice aB LB.length cB)) (first | exact y2 | exact y2' | exact y2'')
          (first
            | (go_at_call 17; refine (slot_any _ _ _ _ LB _ K2d.dk i2 (by omega)).mono ?_; rintro e w3 ⟨rfl, d3, f3⟩; have K3 := K2d.stepx d3 f3; have y2' : w3.cell? ⟨w.heap.size, 2, none⟩ = some (.slice aB LB.length cB) := cell_of_blk (o := 2) K3.row rfl)
            | (go_at_call 27; refine (rslot_any _ _ _ _ LB _ K3.rd K3.bs (by omega)).mono ?_; rintro e w4 ⟨rfl, F', hs4, r4, f4⟩; have y2'' : w4.cell? ⟨w.heap.size, 2, none⟩ = some (.slice aB LB.length cB) := cell_of_blk (o := 2) (f4.blk K3.row K3.nx.2.2) rfl))
        have hfin := Lib.hid (K3.finish hs4 r4 f4)
        clear y2 y2' y2'' K2d K3 hs4 r4 f4
        go_wp2_with fail
        go_meet
        exact ⟨by simp, hfin.out⟩
      · clear kd0 kd1
        go_wp2_with fail
        have K2d := K2.keep0 (Fr.refl none' w2).drew
        obtain ⟨lv, v0, v1, hb, hbl, -, -, hbq, -⟩ := id K2d.rd
        have hlog := hbq.1
        obtain ⟨lo, lc, rfl⟩ := Bytes.cells (w := w2.drew) (L := s.log) (Sl.of_own hbl)
        have m2 : w2.drew.cell? ⟨b, 0, none⟩ = some (.slice lo s.log.length lc) := cell_of_blk (o := 0) hb rfl
        have hb2 := Lib.hid hb
        have Z0 := four K2d.row
        clear y0 hb hbl hbq
        refine wp_region_held_drew (S := (fun w' => w'.cell? ⟨w.heap.size, 0, none⟩ = some (.int .i64 k) ∧ w'.cell? ⟨w.heap.size, 1, none⟩ = some (.int .i64 n) ∧ w'.cell? ⟨w.heap.size, 2, none⟩ = some (.slice aB LB.length cB) ∧ w'.cell? ⟨w.heap.size, 3, none⟩ = some (.bool raw))) (by kernel_rfl) ?_ (fun hHeld => ?_)
        · exact Z0
        refine wpAnyH_take (i := 0) (v := ?_) rfl (by kernel_rfl) (by kernel_rfl) (by kernel_rfl) (fun _ _ _ h => h) (Or.inl ⟨by rfl, ?_⟩) (by assumption) ?_
        rotate_left
        · (intro w hSw; (try dsimp only at hSw); go_simp) <;> with_reducible rfl
        simp only [Act.put, List.setIfInBounds_toArray, List.set_cons_zero, List.set_cons_succ]
        refine wpAnyH_take (i := 1) (v := ?_) rfl (by kernel_rfl) (by kernel_rfl) (by kernel_rfl) (fun _ _ _ h => h) (Or.inl ⟨by rfl, ?_⟩) (by assumption) ?_
        rotate_left
        · (intro w hSw; (try dsimp only at hSw); go_simp) <;> with_reducible rfl
        simp only [Act.put, List.setIfInBounds_toArray, List.set_cons_zero, List.set_cons_succ]
        refine wpAnyH_take (i := 2) (v := ?_) rfl (by kernel_rfl) (by kernel_rfl) (by kernel_rfl) (fun _ _ _ h => h) (Or.inl ⟨by rfl, ?_⟩) (by assumption) ?_
        rotate_left
        · (intro w hSw; (try dsimp only at hSw); go_simp) <;> with_reducible rfl
        simp only [Act.put, List.setIfInBounds_toArray, List.set_cons_zero, List.set_cons_succ]
        refine wpAnyH_take (i := 3) (v := ?_) rfl (by kernel_rfl) (by kernel_rfl) (by kernel_rfl) (fun _ _ _ h => h) (Or.inl ⟨by rfl, ?_⟩) (by assumption) ?_
        rotate_left
        · (intro w hSw; (try dsimp only at hSw); go_simp) <;> with_reducible rfl
        simp only [Act.put, List.setIfInBounds_toArray, List.set_cons_zero, List.set_cons_succ]
        refine wpAnyH_take (i := 4) (v := ?_) rfl (by kernel_rfl) (by kernel_rfl) (by kernel_rfl) (fun _ _ _ h => h) (Or.inl ⟨by rfl, ?_⟩) (by assumption) ?_
        rotate_left
        · (intro w hSw; (try dsimp only at hSw); go_simp) <;> with_reducible rfl
        simp only [Act.put, List.setIfInBounds_toArray, List.set_cons_zero, List.set_cons_succ]
        refine wpAnyH_take (i := 9) (v := ?_) rfl (by kernel_rfl) (by kernel_rfl) (by kernel_rfl) (fun _ _ _ h => h) (Or.inl ⟨by rfl, ?_⟩) (by assumption) ?_
        rotate_left
        · (intro w hSw; (try dsimp only at hSw); go_simp) <;> with_reducible rfl
        simp only [Act.put, List.setIfInBounds_toArray, List.set_cons_zero, List.set_cons_succ]
        refine wpAnyH_take (i := 10) (v := ?_) rfl (by kernel_rfl) (by kernel_rfl) (by kernel_rfl) (fun _ _ _ h => h) (Or.inl ⟨by rfl, ?_⟩) (by assumption) ?_
        rotate_left
        · (intro w hSw; (try dsimp only at hSw); go_simp) <;> with_reducible rfl
        simp only [Act.put, List.setIfInBounds_toArray, List.set_cons_zero, List.set_cons_succ]
        refine wpAnyH_take (i := 11) (v := ?_) rfl (by kernel_rfl) (by kernel_rfl) (by kernel_rfl) (fun _ _ _ h => h) (Or.inl ⟨by rfl, ?_⟩) (by assumption) ?_
        rotate_left
        · (intro w hSw; (try dsimp only at hSw); go_simp) <;> with_reducible rfl
        simp only [Act.put, List.setIfInBounds_toArray, List.set_cons_zero, List.set_cons_succ]
        refine wpAnyH_take (i := 12) (v := ?_) rfl (by kernel_rfl) (by kernel_rfl) (by kernel_rfl) (fun _ _ _ h => h) (Or.inl ⟨by rfl, ?_⟩) (by assumption) ?_
        rotate_left
        · (intro w hSw; (try dsimp only at hSw); go_simp) <;> with_reducible rfl
        simp only [Act.put, List.setIfInBounds_toArray, List.set_cons_zero, List.set_cons_succ]
        refine wpAnyH_take (i := 13) (v := ?_) rfl (by kernel_rfl) (by kernel_rfl) (by kernel_rfl) (fun _ _ _ h => h) (Or.inl ⟨by rfl, ?_⟩) (by assumption) ?_
        rotate_left
        · (intro w hSw; (try dsimp only at hSw); go_simp) <;> with_reducible rfl
        simp only [Act.put, List.setIfInBounds_toArray, List.set_cons_zero, List.set_cons_succ]
        refine wpAnyH_ready (rs := [5, 14]) (by kernel_rfl) (by simp) ?_
        refine AllReadyH.cons rfl (fun K hK => ?_) ?_
        · go_simp
          
          refine hK.out _ _ ?_ (fun hHeld => ?_)
          · exact Z0
          clear hK K
          (try simp only [Act.put, List.setIfInBounds_toArray, List.set_cons_zero, List.set_cons_succ])
          refine wpAnyH_take (i := 6) (v := ?_) rfl (by kernel_rfl) (by kernel_rfl) (by kernel_rfl) (fun _ _ _ h => h) (Or.inl ⟨by rfl, ?_⟩) (by assumption) ?_
          rotate_left
          · (intro w hSw; (try dsimp only at hSw); go_simp) <;> with_reducible rfl
          simp only [Act.put, List.setIfInBounds_toArray, List.set_cons_zero, List.set_cons_succ]
          refine wpAnyH_ready (rs := [7, 14]) (by kernel_rfl) (by simp) ?_
          refine AllReadyH.cons rfl (fun K hK => ?_) ?_
          · go_simp
            refine (part_any k n aB LB.length cB raw s.log.length w2.drew (by omega)).mono ?_
            rintro e w3 ⟨rfl, f3⟩
            have K3 := K2d.keep0 f3
            have hb3 := Lib.hid (f3.blk hb2.out id)
            have m3 : w3.cell? ⟨b, 0, none⟩ = some (.slice lo s.log.length lc) := cell_of_blk (o := 0) hb3.out rfl
            have Z3 := four K3.row
            go_wp2_with fail
            refine hK.out _ _ ?_ (fun hHeld => ?_)
            · exact Z3
            clear hK K
            (try simp only [Act.put, List.setIfInBounds_toArray, List.set_cons_zero, List.set_cons_succ])
            refine wpAnyH_ready (rs := [8, 14]) (by kernel_rfl) (by simp) ?_
            refine AllReadyH.cons rfl (fun K hK => ?_) ?_
            · go_simp
              refine (trim_any _ _ _ _ K3.dk).mono ?_
              rintro e w4 ⟨rfl, d4, f4'⟩
              have K4 := K3.stepx d4 f4'
              have hb4 := Lib.hid (f4'.blk hb3.out (fun e => K3.nx.1 (e ▸ K3.rd.fb)))
              have m4 : w4.cell? ⟨b, 0, none⟩ = some (.slice lo s.log.length lc) := cell_of_blk (o := 0) hb4.out rfl
              have Z4 := four K4.row
              go_wp2_with fail
              refine hK.out _ _ ?_ (fun hHeld => ?_)
              · exact Z4
              clear hK K
              (try simp only [Act.put, List.setIfInBounds_toArray, List.set_cons_zero, List.set_cons_succ])
              refine wpAnyH_ready (rs := [14]) (by kernel_rfl) (by simp) ?_
              refine AllReadyH.cons rfl (fun K hK => ?_) ?_
              · go_simp
                
                refine hK.out _ _ ?_ (fun hHeld => ?_)
                · exact Z4
                clear hK K
                (try simp only [Act.put, List.setIfInBounds_toArray, List.set_cons_zero, List.set_cons_succ])
                refine wpAnyH_take (i := 15) (v := ?_) rfl (by kernel_rfl) (by kernel_rfl) (by kernel_rfl) (fun _ _ _ h => h) (Or.inl ⟨by rfl, ?_⟩) (by assumption) ?_
                rotate_left
                · (intro w hSw; (try dsimp only at hSw); go_simp) <;> with_reducible rfl
                simp only [Act.put, List.setIfInBounds_toArray, List.set_cons_zero, List.set_cons_succ]
                refine wpAnyH_ready (rs := [16]) (by kernel_rfl) (by simp) ?_
                refine AllReadyH.cons rfl (fun K hK => ?_) ?_
                · go_simp
                  refine (part_any k n aB LB.length cB raw s.log.length w4 (by omega)).mono ?_
                  rintro e w5 ⟨rfl, f5⟩
                  have K5 := K4.keep0 f5
                  have Z5 := four K5.row
                  go_wp2_with fail
                  refine hK.out _ _ ?_ (fun hHeld => ?_)
                  · exact Z5
                  clear hK K
                  (try simp only [Act.put, List.setIfInBounds_toArray, List.set_cons_zero, List.set_cons_succ])
                  refine wpAnyH_ready (rs := [17]) (by kernel_rfl) (by simp) ?_
                  refine AllReadyH.cons rfl (fun K hK => ?_) ?_
                  · go_simp
                    refine (rtrim_any _ _ _ _ K5.rd).mono ?_
                    rintro e w6 ⟨rfl, F', hs4, r4, f4⟩
                    have Z6 := four (f4.blk K5.row K5.nx.2.2)
                    go_wp2_with fail
                    refine hK.out _ _ ?_ (fun hHeld => ?_)
                    · exact Z6
                    clear hK K
                    (try simp only [Act.put, List.setIfInBounds_toArray, List.set_cons_zero, List.set_cons_succ])
                    refine wpAnyH_take (i := 18) (oi := { dst := some 71, op := Go.Op.binOp Go.BinOp.eql 37 (Go.Operand.tmp 61) (Go.Operand.tmp 70) 37, type := 4, pos := "law.go:39", after := #[{ on := 8, ground := Go.Ground.data }, { on := 17, ground := Go.Ground.data }], guard := none }) (v := ?_) rfl (by kernel_rfl) (by kernel_rfl) (by kernel_rfl) (fun _ _ _ h => h) (Or.inl ⟨by rfl, ?_⟩) (by assumption) ?_
                    rotate_left
                    · (intro w hSw; (try dsimp only at hSw); go_simp) <;> with_reducible rfl
                    simp only [Act.put, List.setIfInBounds_toArray, List.set_cons_zero, List.set_cons_succ]
                    refine wpAnyH_take (i := 19) (oi := { dst := some 10, op := Go.Op.assign (Go.Operand.tmp 71), type := 4, pos := "law.go:39", after := #[{ on := 18, ground := Go.Ground.data }, { on := 17, ground := Go.Ground.chain }, { on := 0, ground := Go.Ground.phase }, { on := 1, ground := Go.Ground.phase }, { on := 2, ground := Go.Ground.phase }, { on := 3, ground := Go.Ground.phase }, { on := 4, ground := Go.Ground.phase }, { on := 5, ground := Go.Ground.phase }, { on := 6, ground := Go.Ground.phase }, { on := 7, ground := Go.Ground.phase }, { on := 8, ground := Go.Ground.phase }, { on := 9, ground := Go.Ground.phase }, { on := 10, ground := Go.Ground.phase }, { on := 11, ground := Go.Ground.phase }, { on := 12, ground := Go.Ground.phase }, { on := 13, ground := Go.Ground.phase }, { on := 14, ground := Go.Ground.phase }, { on := 15, ground := Go.Ground.phase }, { on := 16, ground := Go.Ground.phase }, { on := 17, ground := Go.Ground.phase }, { on := 18, ground := Go.Ground.phase }], guard := none }) (v := ?_) rfl (by kernel_rfl) (by kernel_rfl) (by kernel_rfl) (fun _ _ _ h => h) (Or.inl ⟨by rfl, ?_⟩) (by assumption) ?_
                    rotate_left
                    · (intro w hSw; (try dsimp only at hSw); go_simp) <;> with_reducible rfl
                    simp only [Act.put, List.setIfInBounds_toArray, List.set_cons_zero, List.set_cons_succ]
                    refine wpAnyH_done (by kernel_rfl) ?_ _
                    have hfin := Lib.hid (K5.finish hs4 r4 f4)
                    clear K2 K2d K3 K4 K5 hs4 r4 f4 Z0 Z3 Z4 Z5 Z6
                    go_wp2_with fail
                    go_meet
                    exact ⟨by simp, hfin.out⟩
                  exact AllReadyH.nil
                exact AllReadyH.nil
              exact AllReadyH.nil
            refine AllReadyH.cons rfl (fun K hK => ?_) ?_
            · go_simp
              
              refine hK.out _ _ ?_ (fun hHeld => ?_)
              · exact Z3
              clear hK K
              (try simp only [Act.put, List.setIfInBounds_toArray, List.set_cons_zero, List.set_cons_succ])
              refine wpAnyH_take (i := 15) (v := ?_) rfl (by kernel_rfl) (by kernel_rfl) (by kernel_rfl) (fun _ _ _ h => h) (Or.inl ⟨by rfl, ?_⟩) (by assumption) ?_
              rotate_left
              · (intro w hSw; (try dsimp only at hSw); go_simp) <;> with_reducible rfl
              simp only [Act.put, List.setIfInBounds_toArray, List.set_cons_zero, List.set_cons_succ]
              refine wpAnyH_ready (rs := [8]) (by kernel_rfl) (by simp) ?_
              refine AllReadyH.cons rfl (fun K hK => ?_) ?_
              · go_simp
                refine (trim_any _ _ _ _ K3.dk).mono ?_
                rintro e w4 ⟨rfl, d4, f4'⟩
                have K4 := K3.stepx d4 f4'
                have hb4 := Lib.hid (f4'.blk hb3.out (fun e => K3.nx.1 (e ▸ K3.rd.fb)))
                have m4 : w4.cell? ⟨b, 0, none⟩ = some (.slice lo s.log.length lc) := cell_of_blk (o := 0) hb4.out rfl
                have Z4 := four K4.row
                go_wp2_with fail
                refine hK.out _ _ ?_ (fun hHeld => ?_)
                · exact Z4
                clear hK K
                (try simp only [Act.put, List.setIfInBounds_toArray, List.set_cons_zero, List.set_cons_succ])
                refine wpAnyH_ready (rs := [16]) (by kernel_rfl) (by simp) ?_
                refine AllReadyH.cons rfl (fun K hK => ?_) ?_
                · go_simp
                  refine (part_any k n aB LB.length cB raw s.log.length w4 (by omega)).mono ?_
                  rintro e w5 ⟨rfl, f5⟩
                  have K5 := K4.keep0 f5
                  have Z5 := four K5.row
                  go_wp2_with fail
                  refine hK.out _ _ ?_ (fun hHeld => ?_)
                  · exact Z5
                  clear hK K
                  (try simp only [Act.put, List.setIfInBounds_toArray, List.set_cons_zero, List.set_cons_succ])
                  refine wpAnyH_ready (rs := [17]) (by kernel_rfl) (by simp) ?_
                  refine AllReadyH.cons rfl (fun K hK => ?_) ?_
                  · go_simp
                    refine (rtrim_any _ _ _ _ K5.rd).mono ?_
                    rintro e w6 ⟨rfl, F', hs4, r4, f4⟩
                    have Z6 := four (f4.blk K5.row K5.nx.2.2)
                    go_wp2_with fail
                    refine hK.out _ _ ?_ (fun hHeld => ?_)
                    · exact Z6
                    clear hK K
                    (try simp only [Act.put, List.setIfInBounds_toArray, List.set_cons_zero, List.set_cons_succ])
                    refine wpAnyH_take (i := 18) (oi := { dst := some 71, op := Go.Op.binOp Go.BinOp.eql 37 (Go.Operand.tmp 61) (Go.Operand.tmp 70) 37, type := 4, pos := "law.go:39", after := #[{ on := 8, ground := Go.Ground.data }, { on := 17, ground := Go.Ground.data }], guard := none }) (v := ?_) rfl (by kernel_rfl) (by kernel_rfl) (by kernel_rfl) (fun _ _ _ h => h) (Or.inl ⟨by rfl, ?_⟩) (by assumption) ?_
                    rotate_left
                    · (intro w hSw; (try dsimp only at hSw); go_simp) <;> with_reducible rfl
                    simp only [Act.put, List.setIfInBounds_toArray, List.set_cons_zero, List.set_cons_succ]
                    refine wpAnyH_take (i := 19) (oi := { dst := some 10, op := Go.Op.assign (Go.Operand.tmp 71), type := 4, pos := "law.go:39", after := #[{ on := 18, ground := Go.Ground.data }, { on := 17, ground := Go.Ground.chain }, { on := 0, ground := Go.Ground.phase }, { on := 1, ground := Go.Ground.phase }, { on := 2, ground := Go.Ground.phase }, { on := 3, ground := Go.Ground.phase }, { on := 4, ground := Go.Ground.phase }, { on := 5, ground := Go.Ground.phase }, { on := 6, ground := Go.Ground.phase }, { on := 7, ground := Go.Ground.phase }, { on := 8, ground := Go.Ground.phase }, { on := 9, ground := Go.Ground.phase }, { on := 10, ground := Go.Ground.phase }, { on := 11, ground := Go.Ground.phase }, { on := 12, ground := Go.Ground.phase }, { on := 13, ground := Go.Ground.phase }, { on := 14, ground := Go.Ground.phase }, { on := 15, ground := Go.Ground.phase }, { on := 16, ground := Go.Ground.phase }, { on := 17, ground := Go.Ground.phase }, { on := 18, ground := Go.Ground.phase }], guard := none }) (v := ?_) rfl (by kernel_rfl) (by kernel_rfl) (by kernel_rfl) (fun _ _ _ h => h) (Or.inl ⟨by rfl, ?_⟩) (by assumption) ?_
                    rotate_left
                    · (intro w hSw; (try dsimp only at hSw); go_simp) <;> with_reducible rfl
                    simp only [Act.put, List.setIfInBounds_toArray, List.set_cons_zero, List.set_cons_succ]
                    refine wpAnyH_done (by kernel_rfl) ?_ _
                    have hfin := Lib.hid (K5.finish hs4 r4 f4)
                    clear K2 K2d K3 K4 K5 hs4 r4 f4 Z0 Z3 Z4 Z5 Z6
                    go_wp2_with fail
                    go_meet
                    exact ⟨by simp, hfin.out⟩
                  exact AllReadyH.nil
                exact AllReadyH.nil
              exact AllReadyH.nil
            exact AllReadyH.nil
          refine AllReadyH.cons rfl (fun K hK => ?_) ?_
          · go_simp
            
            refine hK.out _ _ ?_ (fun hHeld => ?_)
            · exact Z0
            clear hK K
            (try simp only [Act.put, List.setIfInBounds_toArray, List.set_cons_zero, List.set_cons_succ])
            refine wpAnyH_take (i := 15) (v := ?_) rfl (by kernel_rfl) (by kernel_rfl) (by kernel_rfl) (fun _ _ _ h => h) (Or.inl ⟨by rfl, ?_⟩) (by assumption) ?_
            rotate_left
            · (intro w hSw; (try dsimp only at hSw); go_simp) <;> with_reducible rfl
            simp only [Act.put, List.setIfInBounds_toArray, List.set_cons_zero, List.set_cons_succ]
            refine wpAnyH_ready (rs := [7]) (by kernel_rfl) (by simp) ?_
            refine AllReadyH.cons rfl (fun K hK => ?_) ?_
            · go_simp
              refine (part_any k n aB LB.length cB raw s.log.length w2.drew (by omega)).mono ?_
              rintro e w3 ⟨rfl, f3⟩
              have K3 := K2d.keep0 f3
              have hb3 := Lib.hid (f3.blk hb2.out id)
              have m3 : w3.cell? ⟨b, 0, none⟩ = some (.slice lo s.log.length lc) := cell_of_blk (o := 0) hb3.out rfl
              have Z3 := four K3.row
              go_wp2_with fail
              refine hK.out _ _ ?_ (fun hHeld => ?_)
              · exact Z3
              clear hK K
              (try simp only [Act.put, List.setIfInBounds_toArray, List.set_cons_zero, List.set_cons_succ])
              refine wpAnyH_ready (rs := [8]) (by kernel_rfl) (by simp) ?_
              refine AllReadyH.cons rfl (fun K hK => ?_) ?_
              · go_simp
                refine (trim_any _ _ _ _ K3.dk).mono ?_
                rintro e w4 ⟨rfl, d4, f4'⟩
                have K4 := K3.stepx d4 f4'
                have hb4 := Lib.hid (f4'.blk hb3.out (fun e => K3.nx.1 (e ▸ K3.rd.fb)))
                have m4 : w4.cell? ⟨b, 0, none⟩ = some (.slice lo s.log.length lc) := cell_of_blk (o := 0) hb4.out rfl
                have Z4 := four K4.row
                go_wp2_with fail
                refine hK.out _ _ ?_ (fun hHeld => ?_)
                · exact Z4
                clear hK K
                (try simp only [Act.put, List.setIfInBounds_toArray, List.set_cons_zero, List.set_cons_succ])
                refine wpAnyH_ready (rs := [16]) (by kernel_rfl) (by simp) ?_
                refine AllReadyH.cons rfl (fun K hK => ?_) ?_
                · go_simp
                  refine (part_any k n aB LB.length cB raw s.log.length w4 (by omega)).mono ?_
                  rintro e w5 ⟨rfl, f5⟩
                  have K5 := K4.keep0 f5
                  have Z5 := four K5.row
                  go_wp2_with fail
                  refine hK.out _ _ ?_ (fun hHeld => ?_)
                  · exact Z5
                  clear hK K
                  (try simp only [Act.put, List.setIfInBounds_toArray, List.set_cons_zero, List.set_cons_succ])
                  refine wpAnyH_ready (rs := [17]) (by kernel_rfl) (by simp) ?_
                  refine AllReadyH.cons rfl (fun K hK => ?_) ?_
                  · go_simp
                    refine (rtrim_any _ _ _ _ K5.rd).mono ?_
                    rintro e w6 ⟨rfl, F', hs4, r4, f4⟩
                    have Z6 := four (f4.blk K5.row K5.nx.2.2)
                    go_wp2_with fail
                    refine hK.out _ _ ?_ (fun hHeld => ?_)
                    · exact Z6
                    clear hK K
                    (try simp only [Act.put, List.setIfInBounds_toArray, List.set_cons_zero, List.set_cons_succ])
                    refine wpAnyH_take (i := 18) (oi := { dst := some 71, op := Go.Op.binOp Go.BinOp.eql 37 (Go.Operand.tmp 61) (Go.Operand.tmp 70) 37, type := 4, pos := "law.go:39", after := #[{ on := 8, ground := Go.Ground.data }, { on := 17, ground := Go.Ground.data }], guard := none }) (v := ?_) rfl (by kernel_rfl) (by kernel_rfl) (by kernel_rfl) (fun _ _ _ h => h) (Or.inl ⟨by rfl, ?_⟩) (by assumption) ?_
                    rotate_left
                    · (intro w hSw; (try dsimp only at hSw); go_simp) <;> with_reducible rfl
                    simp only [Act.put, List.setIfInBounds_toArray, List.set_cons_zero, List.set_cons_succ]
                    refine wpAnyH_take (i := 19) (oi := { dst := some 10, op := Go.Op.assign (Go.Operand.tmp 71), type := 4, pos := "law.go:39", after := #[{ on := 18, ground := Go.Ground.data }, { on := 17, ground := Go.Ground.chain }, { on := 0, ground := Go.Ground.phase }, { on := 1, ground := Go.Ground.phase }, { on := 2, ground := Go.Ground.phase }, { on := 3, ground := Go.Ground.phase }, { on := 4, ground := Go.Ground.phase }, { on := 5, ground := Go.Ground.phase }, { on := 6, ground := Go.Ground.phase }, { on := 7, ground := Go.Ground.phase }, { on := 8, ground := Go.Ground.phase }, { on := 9, ground := Go.Ground.phase }, { on := 10, ground := Go.Ground.phase }, { on := 11, ground := Go.Ground.phase }, { on := 12, ground := Go.Ground.phase }, { on := 13, ground := Go.Ground.phase }, { on := 14, ground := Go.Ground.phase }, { on := 15, ground := Go.Ground.phase }, { on := 16, ground := Go.Ground.phase }, { on := 17, ground := Go.Ground.phase }, { on := 18, ground := Go.Ground.phase }], guard := none }) (v := ?_) rfl (by kernel_rfl) (by kernel_rfl) (by kernel_rfl) (fun _ _ _ h => h) (Or.inl ⟨by rfl, ?_⟩) (by assumption) ?_
                    rotate_left
                    · (intro w hSw; (try dsimp only at hSw); go_simp) <;> with_reducible rfl
                    simp only [Act.put, List.setIfInBounds_toArray, List.set_cons_zero, List.set_cons_succ]
                    refine wpAnyH_done (by kernel_rfl) ?_ _
                    have hfin := Lib.hid (K5.finish hs4 r4 f4)
                    clear K2 K2d K3 K4 K5 hs4 r4 f4 Z0 Z3 Z4 Z5 Z6
                    go_wp2_with fail
                    go_meet
                    exact ⟨by simp, hfin.out⟩
                  exact AllReadyH.nil
                exact AllReadyH.nil
              exact AllReadyH.nil
            exact AllReadyH.nil
          exact AllReadyH.nil
        refine AllReadyH.cons rfl (fun K hK => ?_) ?_
        · go_simp
          
          refine hK.out _ _ ?_ (fun hHeld => ?_)
          · exact Z0
          clear hK K
          (try simp only [Act.put, List.setIfInBounds_toArray, List.set_cons_zero, List.set_cons_succ])
          refine wpAnyH_take (i := 15) (v := ?_) rfl (by kernel_rfl) (by kernel_rfl) (by kernel_rfl) (fun _ _ _ h => h) (Or.inl ⟨by rfl, ?_⟩) (by assumption) ?_
          rotate_left
          · (intro w hSw; (try dsimp only at hSw); go_simp) <;> with_reducible rfl
          simp only [Act.put, List.setIfInBounds_toArray, List.set_cons_zero, List.set_cons_succ]
          refine wpAnyH_ready (rs := [5]) (by kernel_rfl) (by simp) ?_
          refine AllReadyH.cons rfl (fun K hK => ?_) ?_
          · go_simp
            
            refine hK.out _ _ ?_ (fun hHeld => ?_)
            · exact Z0
            clear hK K
            (try simp only [Act.put, List.setIfInBounds_toArray, List.set_cons_zero, List.set_cons_succ])
            refine wpAnyH_take (i := 6) (v := ?_) rfl (by kernel_rfl) (by kernel_rfl) (by kernel_rfl) (fun _ _ _ h => h) (Or.inl ⟨by rfl, ?_⟩) (by assumption) ?_
            rotate_left
            · (intro w hSw; (try dsimp only at hSw); go_simp) <;> with_reducible rfl
            simp only [Act.put, List.setIfInBounds_toArray, List.set_cons_zero, List.set_cons_succ]
            refine wpAnyH_ready (rs := [7]) (by kernel_rfl) (by simp) ?_
            refine AllReadyH.cons rfl (fun K hK => ?_) ?_
            · go_simp
              refine (part_any k n aB LB.length cB raw s.log.length w2.drew (by omega)).mono ?_
              rintro e w3 ⟨rfl, f3⟩
              have K3 := K2d.keep0 f3
              have hb3 := Lib.hid (f3.blk hb2.out id)
              have m3 : w3.cell? ⟨b, 0, none⟩ = some (.slice lo s.log.length lc) := cell_of_blk (o := 0) hb3.out rfl
              have Z3 := four K3.row
              go_wp2_with fail
              refine hK.out _ _ ?_ (fun hHeld => ?_)
              · exact Z3
              clear hK K
              (try simp only [Act.put, List.setIfInBounds_toArray, List.set_cons_zero, List.set_cons_succ])
              refine wpAnyH_ready (rs := [8]) (by kernel_rfl) (by simp) ?_
              refine AllReadyH.cons rfl (fun K hK => ?_) ?_
              · go_simp
                refine (trim_any _ _ _ _ K3.dk).mono ?_
                rintro e w4 ⟨rfl, d4, f4'⟩
                have K4 := K3.stepx d4 f4'
                have hb4 := Lib.hid (f4'.blk hb3.out (fun e => K3.nx.1 (e ▸ K3.rd.fb)))
                have m4 : w4.cell? ⟨b, 0, none⟩ = some (.slice lo s.log.length lc) := cell_of_blk (o := 0) hb4.out rfl
                have Z4 := four K4.row
                go_wp2_with fail
                refine hK.out _ _ ?_ (fun hHeld => ?_)
                · exact Z4
                clear hK K
                (try simp only [Act.put, List.setIfInBounds_toArray, List.set_cons_zero, List.set_cons_succ])
                refine wpAnyH_ready (rs := [16]) (by kernel_rfl) (by simp) ?_
                refine AllReadyH.cons rfl (fun K hK => ?_) ?_
                · go_simp
                  refine (part_any k n aB LB.length cB raw s.log.length w4 (by omega)).mono ?_
                  rintro e w5 ⟨rfl, f5⟩
                  have K5 := K4.keep0 f5
                  have Z5 := four K5.row
                  go_wp2_with fail
                  refine hK.out _ _ ?_ (fun hHeld => ?_)
                  · exact Z5
                  clear hK K
                  (try simp only [Act.put, List.setIfInBounds_toArray, List.set_cons_zero, List.set_cons_succ])
                  refine wpAnyH_ready (rs := [17]) (by kernel_rfl) (by simp) ?_
                  refine AllReadyH.cons rfl (fun K hK => ?_) ?_
                  · go_simp
                    refine (rtrim_any _ _ _ _ K5.rd).mono ?_
                    rintro e w6 ⟨rfl, F', hs4, r4, f4⟩
                    have Z6 := four (f4.blk K5.row K5.nx.2.2)
                    go_wp2_with fail
                    refine hK.out _ _ ?_ (fun hHeld => ?_)
                    · exact Z6
                    clear hK K
                    (try simp only [Act.put, List.setIfInBounds_toArray, List.set_cons_zero, List.set_cons_succ])
                    refine wpAnyH_take (i := 18) (oi := { dst := some 71, op := Go.Op.binOp Go.BinOp.eql 37 (Go.Operand.tmp 61) (Go.Operand.tmp 70) 37, type := 4, pos := "law.go:39", after := #[{ on := 8, ground := Go.Ground.data }, { on := 17, ground := Go.Ground.data }], guard := none }) (v := ?_) rfl (by kernel_rfl) (by kernel_rfl) (by kernel_rfl) (fun _ _ _ h => h) (Or.inl ⟨by rfl, ?_⟩) (by assumption) ?_
                    rotate_left
                    · (intro w hSw; (try dsimp only at hSw); go_simp) <;> with_reducible rfl
                    simp only [Act.put, List.setIfInBounds_toArray, List.set_cons_zero, List.set_cons_succ]
                    refine wpAnyH_take (i := 19) (oi := { dst := some 10, op := Go.Op.assign (Go.Operand.tmp 71), type := 4, pos := "law.go:39", after := #[{ on := 18, ground := Go.Ground.data }, { on := 17, ground := Go.Ground.chain }, { on := 0, ground := Go.Ground.phase }, { on := 1, ground := Go.Ground.phase }, { on := 2, ground := Go.Ground.phase }, { on := 3, ground := Go.Ground.phase }, { on := 4, ground := Go.Ground.phase }, { on := 5, ground := Go.Ground.phase }, { on := 6, ground := Go.Ground.phase }, { on := 7, ground := Go.Ground.phase }, { on := 8, ground := Go.Ground.phase }, { on := 9, ground := Go.Ground.phase }, { on := 10, ground := Go.Ground.phase }, { on := 11, ground := Go.Ground.phase }, { on := 12, ground := Go.Ground.phase }, { on := 13, ground := Go.Ground.phase }, { on := 14, ground := Go.Ground.phase }, { on := 15, ground := Go.Ground.phase }, { on := 16, ground := Go.Ground.phase }, { on := 17, ground := Go.Ground.phase }, { on := 18, ground := Go.Ground.phase }], guard := none }) (v := ?_) rfl (by kernel_rfl) (by kernel_rfl) (by kernel_rfl) (fun _ _ _ h => h) (Or.inl ⟨by rfl, ?_⟩) (by assumption) ?_
                    rotate_left
                    · (intro w hSw; (try dsimp only at hSw); go_simp) <;> with_reducible rfl
                    simp only [Act.put, List.setIfInBounds_toArray, List.set_cons_zero, List.set_cons_succ]
                    refine wpAnyH_done (by kernel_rfl) ?_ _
                    have hfin := Lib.hid (K5.finish hs4 r4 f4)
                    clear K2 K2d K3 K4 K5 hs4 r4 f4 Z0 Z3 Z4 Z5 Z6
                    go_wp2_with fail
                    go_meet
                    exact ⟨by simp, hfin.out⟩
                  exact AllReadyH.nil
                exact AllReadyH.nil
              exact AllReadyH.nil
            exact AllReadyH.nil
          exact AllReadyH.nil
        exact AllReadyH.nil
      · clear kd0 kd1
        go_wp2_with fail
        have K2d := K2.keep0 (Fr.refl none' w2).drew
        obtain ⟨lv, v0, v1, hb, hbl, -, -, hbq, -⟩ := id K2d.rd
        have hlog := hbq.1
        obtain ⟨lo, lc, rfl⟩ := Bytes.cells (w := w2.drew) (L := s.log) (Sl.of_own hbl)
        have m2 : w2.drew.cell? ⟨b, 0, none⟩ = some (.slice lo s.log.length lc) := cell_of_blk (o := 0) hb rfl
        have hb2 := Lib.hid hb
        have Z0 := four K2d.row
        clear y0 hb hbl hbq
        refine wp_region_held_drew (S := (fun w' => w'.cell? ⟨w.heap.size, 0, none⟩ = some (.int .i64 k) ∧ w'.cell? ⟨w.heap.size, 1, none⟩ = some (.int .i64 n) ∧ w'.cell? ⟨w.heap.size, 2, none⟩ = some (.slice aB LB.length cB) ∧ w'.cell? ⟨w.heap.size, 3, none⟩ = some (.bool raw))) (by kernel_rfl) ?_ (fun hHeld => ?_)
        · exact Z0
        refine wpAnyH_take (i := 0) (v := ?_) rfl (by kernel_rfl) (by kernel_rfl) (by kernel_rfl) (fun _ _ _ h => h) (Or.inl ⟨by rfl, ?_⟩) (by assumption) ?_
        rotate_left
        · (intro w hSw; (try dsimp only at hSw); go_simp) <;> with_reducible rfl
        simp only [Act.put, List.setIfInBounds_toArray, List.set_cons_zero, List.set_cons_succ]
        refine wpAnyH_take (i := 1) (v := ?_) rfl (by kernel_rfl) (by kernel_rfl) (by kernel_rfl) (fun _ _ _ h => h) (Or.inl ⟨by rfl, ?_⟩) (by assumption) ?_
        rotate_left
        · (intro w hSw; (try dsimp only at hSw); go_simp) <;> with_reducible rfl
        simp only [Act.put, List.setIfInBounds_toArray, List.set_cons_zero, List.set_cons_succ]
        refine wpAnyH_take (i := 2) (v := ?_) rfl (by kernel_rfl) (by kernel_rfl) (by kernel_rfl) (fun _ _ _ h => h) (Or.inl ⟨by rfl, ?_⟩) (by assumption) ?_
        rotate_left
        · (intro w hSw; (try dsimp only at hSw); go_simp) <;> with_reducible rfl
        simp only [Act.put, List.setIfInBounds_toArray, List.set_cons_zero, List.set_cons_succ]
        refine wpAnyH_take (i := 3) (v := ?_) rfl (by kernel_rfl) (by kernel_rfl) (by kernel_rfl) (fun _ _ _ h => h) (Or.inl ⟨by rfl, ?_⟩) (by assumption) ?_
        rotate_left
        · (intro w hSw; (try dsimp only at hSw); go_simp) <;> with_reducible rfl
        simp only [Act.put, List.setIfInBounds_toArray, List.set_cons_zero, List.set_cons_succ]
        refine wpAnyH_take (i := 4) (v := ?_) rfl (by kernel_rfl) (by kernel_rfl) (by kernel_rfl) (fun _ _ _ h => h) (Or.inl ⟨by rfl, ?_⟩) (by assumption) ?_
        rotate_left
        · (intro w hSw; (try dsimp only at hSw); go_simp) <;> with_reducible rfl
        simp only [Act.put, List.setIfInBounds_toArray, List.set_cons_zero, List.set_cons_succ]
        refine wpAnyH_take (i := 9) (v := ?_) rfl (by kernel_rfl) (by kernel_rfl) (by kernel_rfl) (fun _ _ _ h => h) (Or.inl ⟨by rfl, ?_⟩) (by assumption) ?_
        rotate_left
        · (intro w hSw; (try dsimp only at hSw); go_simp) <;> with_reducible rfl
        simp only [Act.put, List.setIfInBounds_toArray, List.set_cons_zero, List.set_cons_succ]
        refine wpAnyH_take (i := 10) (v := ?_) rfl (by kernel_rfl) (by kernel_rfl) (by kernel_rfl) (fun _ _ _ h => h) (Or.inl ⟨by rfl, ?_⟩) (by assumption) ?_
        rotate_left
        · (intro w hSw; (try dsimp only at hSw); go_simp) <;> with_reducible rfl
        simp only [Act.put, List.setIfInBounds_toArray, List.set_cons_zero, List.set_cons_succ]
        refine wpAnyH_take (i := 11) (v := ?_) rfl (by kernel_rfl) (by kernel_rfl) (by kernel_rfl) (fun _ _ _ h => h) (Or.inl ⟨by rfl, ?_⟩) (by assumption) ?_
        rotate_left
        · (intro w hSw; (try dsimp only at hSw); go_simp) <;> with_reducible rfl
        simp only [Act.put, List.setIfInBounds_toArray, List.set_cons_zero, List.set_cons_succ]
        refine wpAnyH_take (i := 12) (v := ?_) rfl (by kernel_rfl) (by kernel_rfl) (by kernel_rfl) (fun _ _ _ h => h) (Or.inl ⟨by rfl, ?_⟩) (by assumption) ?_
        rotate_left
        · (intro w hSw; (try dsimp only at hSw); go_simp) <;> with_reducible rfl
        simp only [Act.put, List.setIfInBounds_toArray, List.set_cons_zero, List.set_cons_succ]
        refine wpAnyH_take (i := 13) (v := ?_) rfl (by kernel_rfl) (by kernel_rfl) (by kernel_rfl) (fun _ _ _ h => h) (Or.inl ⟨by rfl, ?_⟩) (by assumption) ?_
        rotate_left
        · (intro w hSw; (try dsimp only at hSw); go_simp) <;> with_reducible rfl
        simp only [Act.put, List.setIfInBounds_toArray, List.set_cons_zero, List.set_cons_succ]
        refine wpAnyH_ready (rs := [5, 14]) (by kernel_rfl) (by simp) ?_
        refine AllReadyH.cons rfl (fun K hK => ?_) ?_
        · go_simp
          
          refine hK.out _ _ ?_ (fun hHeld => ?_)
          · exact Z0
          clear hK K
          (try simp only [Act.put, List.setIfInBounds_toArray, List.set_cons_zero, List.set_cons_succ])
          refine wpAnyH_take (i := 6) (v := ?_) rfl (by kernel_rfl) (by kernel_rfl) (by kernel_rfl) (fun _ _ _ h => h) (Or.inl ⟨by rfl, ?_⟩) (by assumption) ?_
          rotate_left
          · (intro w hSw; (try dsimp only at hSw); go_simp) <;> with_reducible rfl
          simp only [Act.put, List.setIfInBounds_toArray, List.set_cons_zero, List.set_cons_succ]
          refine wpAnyH_ready (rs := [7, 14]) (by kernel_rfl) (by simp) ?_
          refine AllReadyH.cons rfl (fun K hK => ?_) ?_
          · go_simp
            refine (part_any k n aB LB.length cB raw s.log.length w2.drew (by omega)).mono ?_
            rintro e w3 ⟨rfl, f3⟩
            have K3 := K2d.keep0 f3
            have hb3 := Lib.hid (f3.blk hb2.out id)
            have m3 : w3.cell? ⟨b, 0, none⟩ = some (.slice lo s.log.length lc) := cell_of_blk (o := 0) hb3.out rfl
            have Z3 := four K3.row
            go_wp2_with fail
            refine hK.out _ _ ?_ (fun hHeld => ?_)
            · exact Z3
            clear hK K
            (try simp only [Act.put, List.setIfInBounds_toArray, List.set_cons_zero, List.set_cons_succ])
            refine wpAnyH_ready (rs := [8, 14]) (by kernel_rfl) (by simp) ?_
            refine AllReadyH.cons rfl (fun K hK => ?_) ?_
            · go_simp
              refine (cut_any _ _ _ _ K3.dk).mono ?_
              rintro e w4 ⟨rfl, d4, f4'⟩
              have K4 := K3.stepx d4 f4'
              have hb4 := Lib.hid (f4'.blk hb3.out (fun e => K3.nx.1 (e ▸ K3.rd.fb)))
              have m4 : w4.cell? ⟨b, 0, none⟩ = some (.slice lo s.log.length lc) := cell_of_blk (o := 0) hb4.out rfl
              have Z4 := four K4.row
              go_wp2_with fail
              refine hK.out _ _ ?_ (fun hHeld => ?_)
              · exact Z4
              clear hK K
              (try simp only [Act.put, List.setIfInBounds_toArray, List.set_cons_zero, List.set_cons_succ])
              refine wpAnyH_ready (rs := [14]) (by kernel_rfl) (by simp) ?_
              refine AllReadyH.cons rfl (fun K hK => ?_) ?_
              · go_simp
                
                refine hK.out _ _ ?_ (fun hHeld => ?_)
                · exact Z4
                clear hK K
                (try simp only [Act.put, List.setIfInBounds_toArray, List.set_cons_zero, List.set_cons_succ])
                refine wpAnyH_take (i := 15) (v := ?_) rfl (by kernel_rfl) (by kernel_rfl) (by kernel_rfl) (fun _ _ _ h => h) (Or.inl ⟨by rfl, ?_⟩) (by assumption) ?_
                rotate_left
                · (intro w hSw; (try dsimp only at hSw); go_simp) <;> with_reducible rfl
                simp only [Act.put, List.setIfInBounds_toArray, List.set_cons_zero, List.set_cons_succ]
                refine wpAnyH_ready (rs := [16]) (by kernel_rfl) (by simp) ?_
                refine AllReadyH.cons rfl (fun K hK => ?_) ?_
                · go_simp
                  refine (part_any k n aB LB.length cB raw s.log.length w4 (by omega)).mono ?_
                  rintro e w5 ⟨rfl, f5⟩
                  have K5 := K4.keep0 f5
                  have Z5 := four K5.row
                  go_wp2_with fail
                  refine hK.out _ _ ?_ (fun hHeld => ?_)
                  · exact Z5
                  clear hK K
                  (try simp only [Act.put, List.setIfInBounds_toArray, List.set_cons_zero, List.set_cons_succ])
                  refine wpAnyH_ready (rs := [17]) (by kernel_rfl) (by simp) ?_
                  refine AllReadyH.cons rfl (fun K hK => ?_) ?_
                  · go_simp
                    refine (rcut_any _ _ _ _ K5.rd).mono ?_
                    rintro e w6 ⟨rfl, F', hs4, r4, f4⟩
                    have Z6 := four (f4.blk K5.row K5.nx.2.2)
                    go_wp2_with fail
                    refine hK.out _ _ ?_ (fun hHeld => ?_)
                    · exact Z6
                    clear hK K
                    (try simp only [Act.put, List.setIfInBounds_toArray, List.set_cons_zero, List.set_cons_succ])
                    refine wpAnyH_take (i := 18) (oi := { dst := some 92, op := Go.Op.binOp Go.BinOp.eql 37 (Go.Operand.tmp 82) (Go.Operand.tmp 91) 37, type := 4, pos := "law.go:41", after := #[{ on := 8, ground := Go.Ground.data }, { on := 17, ground := Go.Ground.data }], guard := none }) (v := ?_) rfl (by kernel_rfl) (by kernel_rfl) (by kernel_rfl) (fun _ _ _ h => h) (Or.inl ⟨by rfl, ?_⟩) (by assumption) ?_
                    rotate_left
                    · (intro w hSw; (try dsimp only at hSw); go_simp) <;> with_reducible rfl
                    simp only [Act.put, List.setIfInBounds_toArray, List.set_cons_zero, List.set_cons_succ]
                    refine wpAnyH_take (i := 19) (oi := { dst := some 10, op := Go.Op.assign (Go.Operand.tmp 92), type := 4, pos := "law.go:41", after := #[{ on := 18, ground := Go.Ground.data }, { on := 17, ground := Go.Ground.chain }, { on := 0, ground := Go.Ground.phase }, { on := 1, ground := Go.Ground.phase }, { on := 2, ground := Go.Ground.phase }, { on := 3, ground := Go.Ground.phase }, { on := 4, ground := Go.Ground.phase }, { on := 5, ground := Go.Ground.phase }, { on := 6, ground := Go.Ground.phase }, { on := 7, ground := Go.Ground.phase }, { on := 8, ground := Go.Ground.phase }, { on := 9, ground := Go.Ground.phase }, { on := 10, ground := Go.Ground.phase }, { on := 11, ground := Go.Ground.phase }, { on := 12, ground := Go.Ground.phase }, { on := 13, ground := Go.Ground.phase }, { on := 14, ground := Go.Ground.phase }, { on := 15, ground := Go.Ground.phase }, { on := 16, ground := Go.Ground.phase }, { on := 17, ground := Go.Ground.phase }, { on := 18, ground := Go.Ground.phase }], guard := none }) (v := ?_) rfl (by kernel_rfl) (by kernel_rfl) (by kernel_rfl) (fun _ _ _ h => h) (Or.inl ⟨by rfl, ?_⟩) (by assumption) ?_
                    rotate_left
                    · (intro w hSw; (try dsimp only at hSw); go_simp) <;> with_reducible rfl
                    simp only [Act.put, List.setIfInBounds_toArray, List.set_cons_zero, List.set_cons_succ]
                    refine wpAnyH_done (by kernel_rfl) ?_ _
                    have hfin := Lib.hid (K5.finish hs4 r4 f4)
                    clear K2 K2d K3 K4 K5 hs4 r4 f4 Z0 Z3 Z4 Z5 Z6
                    go_wp2_with fail
                    go_meet
                    exact ⟨by simp, hfin.out⟩
                  exact AllReadyH.nil
                exact AllReadyH.nil
              exact AllReadyH.nil
            refine AllReadyH.cons rfl (fun K hK => ?_) ?_
            · go_simp
              
              refine hK.out _ _ ?_ (fun hHeld => ?_)
              · exact Z3
              clear hK K
              (try simp only [Act.put, List.setIfInBounds_toArray, List.set_cons_zero, List.set_cons_succ])
              refine wpAnyH_take (i := 15) (v := ?_) rfl (by kernel_rfl) (by kernel_rfl) (by kernel_rfl) (fun _ _ _ h => h) (Or.inl ⟨by rfl, ?_⟩) (by assumption) ?_
              rotate_left
              · (intro w hSw; (try dsimp only at hSw); go_simp) <;> with_reducible rfl
              simp only [Act.put, List.setIfInBounds_toArray, List.set_cons_zero, List.set_cons_succ]
              refine wpAnyH_ready (rs := [8]) (by kernel_rfl) (by simp) ?_
              refine AllReadyH.cons rfl (fun K hK => ?_) ?_
              · go_simp
                refine (cut_any _ _ _ _ K3.dk).mono ?_
                rintro e w4 ⟨rfl, d4, f4'⟩
                have K4 := K3.stepx d4 f4'
                have hb4 := Lib.hid (f4'.blk hb3.out (fun e => K3.nx.1 (e ▸ K3.rd.fb)))
                have m4 : w4.cell? ⟨b, 0, none⟩ = some (.slice lo s.log.length lc) := cell_of_blk (o := 0) hb4.out rfl
                have Z4 := four K4.row
                go_wp2_with fail
                refine hK.out _ _ ?_ (fun hHeld => ?_)
                · exact Z4
                clear hK K
                (try simp only [Act.put, List.setIfInBounds_toArray, List.set_cons_zero, List.set_cons_succ])
                refine wpAnyH_ready (rs := [16]) (by kernel_rfl) (by simp) ?_
                refine AllReadyH.cons rfl (fun K hK => ?_) ?_
                · go_simp
                  refine (part_any k n aB LB.length cB raw s.log.length w4 (by omega)).mono ?_
                  rintro e w5 ⟨rfl, f5⟩
                  have K5 := K4.keep0 f5
                  have Z5 := four K5.row
                  go_wp2_with fail
                  refine hK.out _ _ ?_ (fun hHeld => ?_)
                  · exact Z5
                  clear hK K
                  (try simp only [Act.put, List.setIfInBounds_toArray, List.set_cons_zero, List.set_cons_succ])
                  refine wpAnyH_ready (rs := [17]) (by kernel_rfl) (by simp) ?_
                  refine AllReadyH.cons rfl (fun K hK => ?_) ?_
                  · go_simp
                    refine (rcut_any _ _ _ _ K5.rd).mono ?_
                    rintro e w6 ⟨rfl, F', hs4, r4, f4⟩
                    have Z6 := four (f4.blk K5.row K5.nx.2.2)
                    go_wp2_with fail
                    refine hK.out _ _ ?_ (fun hHeld => ?_)
                    · exact Z6
                    clear hK K
                    (try simp only [Act.put, List.setIfInBounds_toArray, List.set_cons_zero, List.set_cons_succ])
                    refine wpAnyH_take (i := 18) (oi := { dst := some 92, op := Go.Op.binOp Go.BinOp.eql 37 (Go.Operand.tmp 82) (Go.Operand.tmp 91) 37, type := 4, pos := "law.go:41", after := #[{ on := 8, ground := Go.Ground.data }, { on := 17, ground := Go.Ground.data }], guard := none }) (v := ?_) rfl (by kernel_rfl) (by kernel_rfl) (by kernel_rfl) (fun _ _ _ h => h) (Or.inl ⟨by rfl, ?_⟩) (by assumption) ?_
                    rotate_left
                    · (intro w hSw; (try dsimp only at hSw); go_simp) <;> with_reducible rfl
                    simp only [Act.put, List.setIfInBounds_toArray, List.set_cons_zero, List.set_cons_succ]
                    refine wpAnyH_take (i := 19) (oi := { dst := some 10, op := Go.Op.assign (Go.Operand.tmp 92), type := 4, pos := "law.go:41", after := #[{ on := 18, ground := Go.Ground.data }, { on := 17, ground := Go.Ground.chain }, { on := 0, ground := Go.Ground.phase }, { on := 1, ground := Go.Ground.phase }, { on := 2, ground := Go.Ground.phase }, { on := 3, ground := Go.Ground.phase }, { on := 4, ground := Go.Ground.phase }, { on := 5, ground := Go.Ground.phase }, { on := 6, ground := Go.Ground.phase }, { on := 7, ground := Go.Ground.phase }, { on := 8, ground := Go.Ground.phase }, { on := 9, ground := Go.Ground.phase }, { on := 10, ground := Go.Ground.phase }, { on := 11, ground := Go.Ground.phase }, { on := 12, ground := Go.Ground.phase }, { on := 13, ground := Go.Ground.phase }, { on := 14, ground := Go.Ground.phase }, { on := 15, ground := Go.Ground.phase }, { on := 16, ground := Go.Ground.phase }, { on := 17, ground := Go.Ground.phase }, { on := 18, ground := Go.Ground.phase }], guard := none }) (v := ?_) rfl (by kernel_rfl) (by kernel_rfl) (by kernel_rfl) (fun _ _ _ h => h) (Or.inl ⟨by rfl, ?_⟩) (by assumption) ?_
                    rotate_left
                    · (intro w hSw; (try dsimp only at hSw); go_simp) <;> with_reducible rfl
                    simp only [Act.put, List.setIfInBounds_toArray, List.set_cons_zero, List.set_cons_succ]
                    refine wpAnyH_done (by kernel_rfl) ?_ _
                    have hfin := Lib.hid (K5.finish hs4 r4 f4)
                    clear K2 K2d K3 K4 K5 hs4 r4 f4 Z0 Z3 Z4 Z5 Z6
                    go_wp2_with fail
                    go_meet
                    exact ⟨by simp, hfin.out⟩
                  exact AllReadyH.nil
                exact AllReadyH.nil
              exact AllReadyH.nil
            exact AllReadyH.nil
          refine AllReadyH.cons rfl (fun K hK => ?_) ?_
          · go_simp
            
            refine hK.out _ _ ?_ (fun hHeld => ?_)
            · exact Z0
            clear hK K
            (try simp only [Act.put, List.setIfInBounds_toArray, List.set_cons_zero, List.set_cons_succ])
            refine wpAnyH_take (i := 15) (v := ?_) rfl (by kernel_rfl) (by kernel_rfl) (by kernel_rfl) (fun _ _ _ h => h) (Or.inl ⟨by rfl, ?_⟩) (by assumption) ?_
            rotate_left
            · (intro w hSw; (try dsimp only at hSw); go_simp) <;> with_reducible rfl
            simp only [Act.put, List.setIfInBounds_toArray, List.set_cons_zero, List.set_cons_succ]
            refine wpAnyH_ready (rs := [7]) (by kernel_rfl) (by simp) ?_
            refine AllReadyH.cons rfl (fun K hK => ?_) ?_
            · go_simp
              refine (part_any k n aB LB.length cB raw s.log.length w2.drew (by omega)).mono ?_
              rintro e w3 ⟨rfl, f3⟩
              have K3 := K2d.keep0 f3
              have hb3 := Lib.hid (f3.blk hb2.out id)
              have m3 : w3.cell? ⟨b, 0, none⟩ = some (.slice lo s.log.length lc) := cell_of_blk (o := 0) hb3.out rfl
              have Z3 := four K3.row
              go_wp2_with fail
              refine hK.out _ _ ?_ (fun hHeld => ?_)
              · exact Z3
              clear hK K
              (try simp only [Act.put, List.setIfInBounds_toArray, List.set_cons_zero, List.set_cons_succ])
              refine wpAnyH_ready (rs := [8]) (by kernel_rfl) (by simp) ?_
              refine AllReadyH.cons rfl (fun K hK => ?_) ?_
              · go_simp
                refine (cut_any _ _ _ _ K3.dk).mono ?_
                rintro e w4 ⟨rfl, d4, f4'⟩
                have K4 := K3.stepx d4 f4'
                have hb4 := Lib.hid (f4'.blk hb3.out (fun e => K3.nx.1 (e ▸ K3.rd.fb)))
                have m4 : w4.cell? ⟨b, 0, none⟩ = some (.slice lo s.log.length lc) := cell_of_blk (o := 0) hb4.out rfl
                have Z4 := four K4.row
                go_wp2_with fail
                refine hK.out _ _ ?_ (fun hHeld => ?_)
                · exact Z4
                clear hK K
                (try simp only [Act.put, List.setIfInBounds_toArray, List.set_cons_zero, List.set_cons_succ])
                refine wpAnyH_ready (rs := [16]) (by kernel_rfl) (by simp) ?_
                refine AllReadyH.cons rfl (fun K hK => ?_) ?_
                · go_simp
                  refine (part_any k n aB LB.length cB raw s.log.length w4 (by omega)).mono ?_
                  rintro e w5 ⟨rfl, f5⟩
                  have K5 := K4.keep0 f5
                  have Z5 := four K5.row
                  go_wp2_with fail
                  refine hK.out _ _ ?_ (fun hHeld => ?_)
                  · exact Z5
                  clear hK K
                  (try simp only [Act.put, List.setIfInBounds_toArray, List.set_cons_zero, List.set_cons_succ])
                  refine wpAnyH_ready (rs := [17]) (by kernel_rfl) (by simp) ?_
                  refine AllReadyH.cons rfl (fun K hK => ?_) ?_
                  · go_simp
                    refine (rcut_any _ _ _ _ K5.rd).mono ?_
                    rintro e w6 ⟨rfl, F', hs4, r4, f4⟩
                    have Z6 := four (f4.blk K5.row K5.nx.2.2)
                    go_wp2_with fail
                    refine hK.out _ _ ?_ (fun hHeld => ?_)
                    · exact Z6
                    clear hK K
                    (try simp only [Act.put, List.setIfInBounds_toArray, List.set_cons_zero, List.set_cons_succ])
                    refine wpAnyH_take (i := 18) (oi := { dst := some 92, op := Go.Op.binOp Go.BinOp.eql 37 (Go.Operand.tmp 82) (Go.Operand.tmp 91) 37, type := 4, pos := "law.go:41", after := #[{ on := 8, ground := Go.Ground.data }, { on := 17, ground := Go.Ground.data }], guard := none }) (v := ?_) rfl (by kernel_rfl) (by kernel_rfl) (by kernel_rfl) (fun _ _ _ h => h) (Or.inl ⟨by rfl, ?_⟩) (by assumption) ?_
                    rotate_left
                    · (intro w hSw; (try dsimp only at hSw); go_simp) <;> with_reducible rfl
                    simp only [Act.put, List.setIfInBounds_toArray, List.set_cons_zero, List.set_cons_succ]
                    refine wpAnyH_take (i := 19) (oi := { dst := some 10, op := Go.Op.assign (Go.Operand.tmp 92), type := 4, pos := "law.go:41", after := #[{ on := 18, ground := Go.Ground.data }, { on := 17, ground := Go.Ground.chain }, { on := 0, ground := Go.Ground.phase }, { on := 1, ground := Go.Ground.phase }, { on := 2, ground := Go.Ground.phase }, { on := 3, ground := Go.Ground.phase }, { on := 4, ground := Go.Ground.phase }, { on := 5, ground := Go.Ground.phase }, { on := 6, ground := Go.Ground.phase }, { on := 7, ground := Go.Ground.phase }, { on := 8, ground := Go.Ground.phase }, { on := 9, ground := Go.Ground.phase }, { on := 10, ground := Go.Ground.phase }, { on := 11, ground := Go.Ground.phase }, { on := 12, ground := Go.Ground.phase }, { on := 13, ground := Go.Ground.phase }, { on := 14, ground := Go.Ground.phase }, { on := 15, ground := Go.Ground.phase }, { on := 16, ground := Go.Ground.phase }, { on := 17, ground := Go.Ground.phase }, { on := 18, ground := Go.Ground.phase }], guard := none }) (v := ?_) rfl (by kernel_rfl) (by kernel_rfl) (by kernel_rfl) (fun _ _ _ h => h) (Or.inl ⟨by rfl, ?_⟩) (by assumption) ?_
                    rotate_left
                    · (intro w hSw; (try dsimp only at hSw); go_simp) <;> with_reducible rfl
                    simp only [Act.put, List.setIfInBounds_toArray, List.set_cons_zero, List.set_cons_succ]
                    refine wpAnyH_done (by kernel_rfl) ?_ _
                    have hfin := Lib.hid (K5.finish hs4 r4 f4)
                    clear K2 K2d K3 K4 K5 hs4 r4 f4 Z0 Z3 Z4 Z5 Z6
                    go_wp2_with fail
                    go_meet
                    exact ⟨by simp, hfin.out⟩
                  exact AllReadyH.nil
                exact AllReadyH.nil
              exact AllReadyH.nil
            exact AllReadyH.nil
          exact AllReadyH.nil
        refine AllReadyH.cons rfl (fun K hK => ?_) ?_
        · go_simp
          
          refine hK.out _ _ ?_ (fun hHeld => ?_)
          · exact Z0
          clear hK K
          (try simp only [Act.put, List.setIfInBounds_toArray, List.set_cons_zero, List.set_cons_succ])
          refine wpAnyH_take (i := 15) (v := ?_) rfl (by kernel_rfl) (by kernel_rfl) (by kernel_rfl) (fun _ _ _ h => h) (Or.inl ⟨by rfl, ?_⟩) (by assumption) ?_
          rotate_left
          · (intro w hSw; (try dsimp only at hSw); go_simp) <;> with_reducible rfl
          simp only [Act.put, List.setIfInBounds_toArray, List.set_cons_zero, List.set_cons_succ]
          refine wpAnyH_ready (rs := [5]) (by kernel_rfl) (by simp) ?_
          refine AllReadyH.cons rfl (fun K hK => ?_) ?_
          · go_simp
            
            refine hK.out _ _ ?_ (fun hHeld => ?_)
            · exact Z0
            clear hK K
            (try simp only [Act.put, List.setIfInBounds_toArray, List.set_cons_zero, List.set_cons_succ])
            refine wpAnyH_take (i := 6) (v := ?_) rfl (by kernel_rfl) (by kernel_rfl) (by kernel_rfl) (fun _ _ _ h => h) (Or.inl ⟨by rfl, ?_⟩) (by assumption) ?_
            rotate_left
            · (intro w hSw; (try dsimp only at hSw); go_simp) <;> with_reducible rfl
            simp only [Act.put, List.setIfInBounds_toArray, List.set_cons_zero, List.set_cons_succ]
            refine wpAnyH_ready (rs := [7]) (by kernel_rfl) (by simp) ?_
            refine AllReadyH.cons rfl (fun K hK => ?_) ?_
            · go_simp
              refine (part_any k n aB LB.length cB raw s.log.length w2.drew (by omega)).mono ?_
              rintro e w3 ⟨rfl, f3⟩
              have K3 := K2d.keep0 f3
              have hb3 := Lib.hid (f3.blk hb2.out id)
              have m3 : w3.cell? ⟨b, 0, none⟩ = some (.slice lo s.log.length lc) := cell_of_blk (o := 0) hb3.out rfl
              have Z3 := four K3.row
              go_wp2_with fail
              refine hK.out _ _ ?_ (fun hHeld => ?_)
              · exact Z3
              clear hK K
              (try simp only [Act.put, List.setIfInBounds_toArray, List.set_cons_zero, List.set_cons_succ])
              refine wpAnyH_ready (rs := [8]) (by kernel_rfl) (by simp) ?_
              refine AllReadyH.cons rfl (fun K hK => ?_) ?_
              · go_simp
                refine (cut_any _ _ _ _ K3.dk).mono ?_
                rintro e w4 ⟨rfl, d4, f4'⟩
                have K4 := K3.stepx d4 f4'
                have hb4 := Lib.hid (f4'.blk hb3.out (fun e => K3.nx.1 (e ▸ K3.rd.fb)))
                have m4 : w4.cell? ⟨b, 0, none⟩ = some (.slice lo s.log.length lc) := cell_of_blk (o := 0) hb4.out rfl
                have Z4 := four K4.row
                go_wp2_with fail
                refine hK.out _ _ ?_ (fun hHeld => ?_)
                · exact Z4
                clear hK K
                (try simp only [Act.put, List.setIfInBounds_toArray, List.set_cons_zero, List.set_cons_succ])
                refine wpAnyH_ready (rs := [16]) (by kernel_rfl) (by simp) ?_
                refine AllReadyH.cons rfl (fun K hK => ?_) ?_
                · go_simp
                  refine (part_any k n aB LB.length cB raw s.log.length w4 (by omega)).mono ?_
                  rintro e w5 ⟨rfl, f5⟩
                  have K5 := K4.keep0 f5
                  have Z5 := four K5.row
                  go_wp2_with fail
                  refine hK.out _ _ ?_ (fun hHeld => ?_)
                  · exact Z5
                  clear hK K
                  (try simp only [Act.put, List.setIfInBounds_toArray, List.set_cons_zero, List.set_cons_succ])
                  refine wpAnyH_ready (rs := [17]) (by kernel_rfl) (by simp) ?_
                  refine AllReadyH.cons rfl (fun K hK => ?_) ?_
                  · go_simp
                    refine (rcut_any _ _ _ _ K5.rd).mono ?_
                    rintro e w6 ⟨rfl, F', hs4, r4, f4⟩
                    have Z6 := four (f4.blk K5.row K5.nx.2.2)
                    go_wp2_with fail
                    refine hK.out _ _ ?_ (fun hHeld => ?_)
                    · exact Z6
                    clear hK K
                    (try simp only [Act.put, List.setIfInBounds_toArray, List.set_cons_zero, List.set_cons_succ])
                    refine wpAnyH_take (i := 18) (oi := { dst := some 92, op := Go.Op.binOp Go.BinOp.eql 37 (Go.Operand.tmp 82) (Go.Operand.tmp 91) 37, type := 4, pos := "law.go:41", after := #[{ on := 8, ground := Go.Ground.data }, { on := 17, ground := Go.Ground.data }], guard := none }) (v := ?_) rfl (by kernel_rfl) (by kernel_rfl) (by kernel_rfl) (fun _ _ _ h => h) (Or.inl ⟨by rfl, ?_⟩) (by assumption) ?_
                    rotate_left
                    · (intro w hSw; (try dsimp only at hSw); go_simp) <;> with_reducible rfl
                    simp only [Act.put, List.setIfInBounds_toArray, List.set_cons_zero, List.set_cons_succ]
                    refine wpAnyH_take (i := 19) (oi := { dst := some 10, op := Go.Op.assign (Go.Operand.tmp 92), type := 4, pos := "law.go:41", after := #[{ on := 18, ground := Go.Ground.data }, { on := 17, ground := Go.Ground.chain }, { on := 0, ground := Go.Ground.phase }, { on := 1, ground := Go.Ground.phase }, { on := 2, ground := Go.Ground.phase }, { on := 3, ground := Go.Ground.phase }, { on := 4, ground := Go.Ground.phase }, { on := 5, ground := Go.Ground.phase }, { on := 6, ground := Go.Ground.phase }, { on := 7, ground := Go.Ground.phase }, { on := 8, ground := Go.Ground.phase }, { on := 9, ground := Go.Ground.phase }, { on := 10, ground := Go.Ground.phase }, { on := 11, ground := Go.Ground.phase }, { on := 12, ground := Go.Ground.phase }, { on := 13, ground := Go.Ground.phase }, { on := 14, ground := Go.Ground.phase }, { on := 15, ground := Go.Ground.phase }, { on := 16, ground := Go.Ground.phase }, { on := 17, ground := Go.Ground.phase }, { on := 18, ground := Go.Ground.phase }], guard := none }) (v := ?_) rfl (by kernel_rfl) (by kernel_rfl) (by kernel_rfl) (fun _ _ _ h => h) (Or.inl ⟨by rfl, ?_⟩) (by assumption) ?_
                    rotate_left
                    · (intro w hSw; (try dsimp only at hSw); go_simp) <;> with_reducible rfl
                    simp only [Act.put, List.setIfInBounds_toArray, List.set_cons_zero, List.set_cons_succ]
                    refine wpAnyH_done (by kernel_rfl) ?_ _
                    have hfin := Lib.hid (K5.finish hs4 r4 f4)
                    clear K2 K2d K3 K4 K5 hs4 r4 f4 Z0 Z3 Z4 Z5 Z6
                    go_wp2_with fail
                    go_meet
                    exact ⟨by simp, hfin.out⟩
                  exact AllReadyH.nil
                exact AllReadyH.nil
              exact AllReadyH.nil
            exact AllReadyH.nil
          exact AllReadyH.nil
        exact AllReadyH.nil
      · clear kd0 kd1
        go_wp2_with fail
        refine (arm_any _ _ _ _ K2.dk hn9).mono ?_
        rintro e w3 ⟨rfl, d3, f3⟩
        have K3 := K2.stepx d3 f3
        clear d3 f3 y0
        go_wp2_with fail
        refine (rarm_any _ _ _ _ K3.rd hn9).mono ?_
        rintro e w4 ⟨rfl, r4, f4⟩
        have hfin := Lib.hid (K3.finish (fun _ h => .inl h) r4 (f4.mono (fun i _ e => by cases e; exact K3.rd.fb)))
        clear K3 r4 f4 K2 L7
        go_wp2_with fail
        go_meet
        exact ⟨by simp, hfin.out⟩
      · clear kd0 kd1
        go_wp2_with fail
        refine (revive_any _ _ _ K2.dk).mono ?_
        rintro e w3 ⟨rfl, d3, f3⟩
        have K3 := K2.stepx d3 f3
        clear d3 f3 y0
        go_wp2_with fail
        refine (rrevive_any _ _ _ K3.rd).mono ?_
        rintro e w4 ⟨rfl, r4, f4⟩
        have hfin := Lib.hid (K3.finish (fun _ h => .inl h) r4 (f4.mono (fun i _ e => by cases e; exact K3.rd.fb)))
        clear K3 r4 f4 K2 L7
        go_wp2_with fail
        go_meet
        exact ⟨by simp, hfin.out⟩
      · clear kd0 kd1
        go_wp2_with fail
        refine (revive_any _ _ _ K2.dk).mono ?_
        rintro e w3 ⟨rfl, d3, f3⟩
        have K3 := K2.stepx d3 f3
        clear d3 f3 y0
        go_wp2_with fail
        refine (rrevive_any _ _ _ K3.rd).mono ?_
        rintro e w4 ⟨rfl, r4, f4⟩
        have hfin := Lib.hid (K3.finish (fun _ h => .inl h) r4 (f4.mono (fun i _ e => by cases e; exact K3.rd.fb)))
        clear K3 r4 f4 K2 L7
        go_wp2_with fail
        go_meet
        exact ⟨by simp, hfin.out⟩
    case rest =>
      obtain ⟨w3, rfl⟩ : ∃ w3, w3 = wc := ⟨_, rfl⟩
      obtain ⟨rfl, F', s', hs', dk, rd, fr⟩ := hcut
      have hP : ∀ i, (Value.slice a7 LB.length c7).ownBlock = some i → w.heap.size ≤ i := fun i hi => by have := (h7h.out i hi).1; omega
      have T3 := Turn.start (ownsRow_keep L7.out fr (fun i hi e => by
        have := hP i hi
        rcases e with e | e
        · omega
        · have := hFo.out i e; omega))
      have hPh := Lib.hid hP
      have hs'' := Lib.hid hs'
      have dk' := Lib.hid dk
      have rd' := Lib.hid rd
      have fr' := Lib.hid fr
      clear hP hs' dk rd fr K2 L7 y0
      go_wp2_with fail
      go_loopw [11] (fun i wr => ∃ k : Nat, i = .int .i64 k ∧ k ≤ LB.length ∧ Turn (w.heap.size + 1) (.slice a7 LB.length c7) LB.length w3 wr) (fun i _ => LB.length - (intOf i).toNat)
      case atStart => exact ⟨0, rfl, Nat.zero_le _, T3⟩
      case round =>
        obtain ⟨k', rfl, hk, ht⟩ := hrel
        clear T3
        by_cases hlt : k' < LB.length
        · obtain ⟨g, cap, y, he, hc, hz, hn⟩ := ht.cell k' hlt
          injection he with h1 h2 h3
          subst h1; subst h3
          clear h2 ht
          go_wp2_with fail
          go_roundw
          case rel => exact ⟨k' + 1, by go_num, by omega, hn _⟩
          case measure => simp [intOf]; omega
        · go_wp2_with fail
          go_ret
          exact ⟨rfl, F', s', fun i hi => (hs''.out i hi).imp id (fun h => Nat.le_trans F2.size h), (dk'.out.keepV (ht.2.mono (fun i _ e => .inr e))).shift (Fr.refl _ _) (fun i hi => ⟨.inl (.inl hi), Nat.lt_of_lt_of_le (rd'.out.old.2 i hi) ht.2.size⟩), (rd'.out.keepV ht.2).shift (Fr.refl _ _) (fun _ h => h.elim), ((F2.mono (fun _ _ h => h.elim)).trans fr'.out (fun _ _ h => h)).trans ht.2 (fun i hi e => by have := hPh.out i e; omega)⟩

end Go.Proofs.Ytnflppgmccddoaa
