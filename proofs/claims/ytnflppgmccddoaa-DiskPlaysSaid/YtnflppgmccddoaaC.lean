/-
  The disk's methods, function by function.
-/
import Derived.Test.YtnflppgmccddoaaB
import Derived.Laws.EntriesVeiled
namespace Go.Proofs.Ytnflppgmccddoaa
set_option linter.unusedVariables false
open Go.RowKit
variable {V : Nat → Prop}

theorem trim_any (b : Nat) (n : Int) (s : DSt) (w : World) (h : Dk V w b s) :
    Calls Try.prog 20 #[.pointer (some ⟨b, 0, none⟩), .int .i64 n] w fun e w' => e = .returned (.int .i64 (s.trim n).2) ∧ Dk V w' b (s.trim n).1 ∧ Fr (one b) w w' := by
  have hmf : ∀ (fn : Fn) (first cap : Array Value) (w : World), (Instr.makeFunc fn first cap).run Try.prog w = .ok (.func fn first cap) w := fun _ _ _ _ => rfl
  have ha : Fr none' w (w.alloc (.cells #[.pointer (some ⟨b, 0, none⟩)] 23)) := (Fr.refl _ _).alloc _
  have ha' := Lib.hid ha
  clear ha
  go_enter Try.func20, Try.ntmps20
  go_wp2_with fail
  refine (keep_trim b w.heap.size n s _ (h.keep0 ha'.out) (by simp)).mono ?_
  rintro e w1 ⟨rfl, h1, f1⟩
  go_wp2_with fail
  go_ret
  exact ⟨rfl, h1, (ha'.out.mono (fun _ _ h => h.elim)).trans f1 (fun _ _ h => h)⟩

theorem cut_any (b : Nat) (n : Int) (s : DSt) (w : World) (h : Dk V w b s) :
    Calls Try.prog 21 #[.pointer (some ⟨b, 0, none⟩), .int .i64 n] w fun e w' => e = .returned (.int .i64 (s.cut n).2) ∧ Dk V w' b (s.cut n).1 ∧ Fr (one b) w w' := by
  have hmf : ∀ (fn : Fn) (first cap : Array Value) (w : World), (Instr.makeFunc fn first cap).run Try.prog w = .ok (.func fn first cap) w := fun _ _ _ _ => rfl
  have ha : Fr (one b) w (w.alloc (.cells #[.pointer (some ⟨b, 0, none⟩)] 23)) := (Fr.refl _ _).alloc _
  have ha' := Lib.hid ha
  have hk := Lib.hid (h.keep0 ((Fr.refl none' w).alloc (.cells #[.pointer (some ⟨b, 0, none⟩)] 23)))
  clear ha
  go_enter Try.func21, Try.ntmps21
  go_wp2_with fail
  refine (keep_cut b w.heap.size n s _ hk.out (by simp)).mono ?_
  rintro e w1 ⟨rfl, h1, f1⟩
  go_wp2_with fail
  go_ret
  exact ⟨rfl, h1, ha'.out.trans f1 (fun _ _ h => h)⟩

/-- What Arm does. -/
def DSt.armed (s : DSt) (c : Int) : DSt × Int := if s.dead then (s, 130) else if c < 0 then (s, 2) else ({ s with arm := some c }, 0)

set_option maxHeartbeats 400000 in
theorem arm_any (b : Nat) (c : Int) (s : DSt) (w : World) (h : Dk V w b s) (hc : c ≤ 9223372036854775807) :
    Calls Try.prog 22 #[.pointer (some ⟨b, 0, none⟩), .int .i64 c] w fun e w' => e = .returned (.int .i64 (s.armed c).2) ∧ Dk V w' b (s.armed c).1 ∧ Fr (one b) w w' := by
  have hmf : ∀ (fn : Fn) (first cap : Array Value) (w : World), (Instr.makeFunc fn first cap).run Try.prog w = .ok (.func fn first cap) w := fun _ _ _ _ => rfl
  have ha : Fr none' w (w.alloc (.cells #[.int .i64 c] 3)) := (Fr.refl _ _).alloc _
  have hD := Lib.hid h
  have hk := Lib.hid (h.keep0 ha)
  have ha' := Lib.hid ha
  obtain ⟨lv, v0, v1, fv, hh, hl, _, _, hf, hll, _, _⟩ := h
  obtain ⟨fn, x, y, rfl⟩ := hf.func
  have c4 := cell_of_blk (o := 4) hh rfl
  have z4 := free_of_blk (o := 4) hh
  have hbw := lt_of_blk hh
  have hhh := Lib.hid hh
  clear ha hh hf
  by_cases hd : s.dead = true
  · have e1 : s.armed c = (s, 130) := by unfold DSt.armed; rw [if_pos hd]
    rw [e1]
    clear e1
    go_enter Try.func22, Try.ntmps22
    go_wp2_with fail
    refine (asked_any _ _ _ hk.out).mono ?_
    rintro e w' ⟨rfl, rfl⟩
    rw [hd]
    unfold deadNo
    clear hd
    go_wp2_with fail
    go_ret
    exact ⟨rfl, hk.out, (Fr.refl _ _).alloc _⟩
  · have hd' : s.dead = false := by simpa using hd
    by_cases hn : c < 0
    · have e1 : s.armed c = (s, 2) := by unfold DSt.armed; rw [if_neg hd, if_pos hn]
      rw [e1]
      clear e1 hd
      go_enter Try.func22, Try.ntmps22
      go_wp2_with fail
      refine (asked_any _ _ _ hk.out).mono ?_
      rintro e w' ⟨rfl, rfl⟩
      rw [hd']
      unfold deadNo
      clear hd'
      go_wp2_with fail
      go_ret
      exact ⟨rfl, hk.out, (Fr.refl _ _).alloc _⟩
    · have e1 : s.armed c = ({ s with arm := some c }, 0) := by unfold DSt.armed; rw [if_neg hd, if_neg hn]
      rw [e1]
      clear e1 hd
      have hn' : 0 ≤ c := by omega
      clear hn
      go_enter Try.func22, Try.ntmps22
      go_wp2_with fail
      refine (asked_any _ _ _ hk.out).mono ?_
      rintro e w' ⟨rfl, rfl⟩
      rw [hd']
      unfold deadNo
      clear hd'
      go_wp2_with fail
      go_ret
      have F : Fr (one b) w ((w.setCell ⟨b, 4, none⟩ (.func (.func 43) #[] #[.pointer (some ⟨w.heap.size, 0, none⟩)])).alloc (.cells #[.int .i64 c] 3)) := by (repeat (first | exact Fr.refl _ _ | assumption | apply Fr.drew | apply Fr.drewN | apply Fr.alloc | (refine Fr.setCell ?_ _ _ (by first | exact .inr rfl | (left; simp; done) | (left; simp; omega) | (right; simp [one, two]; done)))))
      refine ⟨rfl, ?_, F⟩
      have hold := hD.out.old
      obtain ⟨lv, v0, v1, fv, hb, hl, h0, h1, _, q0, q1, q2, ol, o0, o1, of, ov⟩ := hD.out
      have hn := hD.out.noByte
      refine ⟨lv, v0, v1, _, ?_, hl.keep F (fun b hb hS => (hn b hb hS).1), h0.keep F (fun b hb hS => (hn b hb hS).1), h1.keep F (fun b hb hS => (hn b hb hS).1), ⟨hn', hc, w.heap.size, rfl, ?_⟩, q0, q1, q2, ol, o0, o1, fun cb e hv => ?_, fun i hi => ⟨Nat.lt_of_lt_of_le (ov i hi).1 F.size, (ov i hi).2⟩⟩
      · (repeat (first | rw [blk_drew] | rw [blk_drewN] | rw [blk_set_at hb rfl] | rw [blk_alloc_old (by first | omega | (simp; done) | (simp; omega))] | rw [blk_set_other (by first | omega | (simp; done) | (simp; omega))] | rw [blk_alloc_new (by first | omega | (simp; done) | (simp; omega))])); rfl
      · exact blk_alloc_new (by simp)
      · injection e with _ _ e
        injection e with e
        injection e with e
        injection e with e
        injection e with e
        injection e with e
        subst e
        have := hold _ hv
        omega

/-- What Revive makes. -/
def DSt.revived (s : DSt) : DSt := { s with dead := false, arm := none }

theorem revive_any (b : Nat) (s : DSt) (w : World) (h : Dk V w b s) :
    Calls Try.prog 23 #[.pointer (some ⟨b, 0, none⟩)] w fun e w' => e = .returned (.int .i64 0) ∧ Dk V w' b s.revived ∧ Fr (one b) w w' := by
  have hD := Lib.hid h
  obtain ⟨lv, v0, v1, fv, hh, hl, _, _, hf, hll, _, _⟩ := h
  obtain ⟨fn, x, y, rfl⟩ := hf.func
  have c4 := cell_of_blk (o := 4) hh rfl
  have z4 := free_of_blk (o := 4) hh
  have c3 := cell_of_blk (o := 3) hh rfl
  have z3 := free_of_blk (o := 3) hh
  have hne : (deadNo s.dead == 1) = false := by unfold deadNo; split <;> rfl
  clear hh hf
  go_enter Try.func23, Try.ntmps23
  go_wp2_with fail
  refine (asked_any _ _ _ hD.out).mono ?_
  rintro e w' ⟨rfl, rfl⟩
  go_wp2_with fail
  go_ret
  have F : Fr (one b) w ((w.setCell ⟨b, 3, none⟩ (.bool false)).setCell ⟨b, 4, none⟩ (.func (.func 26) #[] #[])) := by (repeat (first | exact Fr.refl _ _ | assumption | apply Fr.drew | apply Fr.drewN | apply Fr.alloc | (refine Fr.setCell ?_ _ _ (by first | exact .inr rfl | (left; simp; done) | (left; simp; omega) | (right; simp [one, two]; done)))))
  refine ⟨rfl, ?_, F⟩
  obtain ⟨lv, v0, v1, fv, hb, hl, h0, h1, _, q0, q1, q2, ol, o0, o1, of, ov⟩ := hD.out
  have hn := hD.out.noByte
  refine ⟨lv, v0, v1, _, ?_, hl.keep F (fun b hb hS => (hn b hb hS).1), h0.keep F (fun b hb hS => (hn b hb hS).1), h1.keep F (fun b hb hS => (hn b hb hS).1), rfl, q0, q1, q2, ol, o0, o1, fun _ e => (by cases e), fun i hi => ⟨Nat.lt_of_lt_of_le (ov i hi).1 F.size, (ov i hi).2⟩⟩
  rw [blk_set_same rfl, blk_set_at hb rfl]; rfl

theorem dead_any (b : Nat) (s : DSt) (w : World) (h : Dk V w b s) :
    Calls Try.prog 15 #[.pointer (some ⟨b, 0, none⟩)] w fun e w' => e = .returned (.bool s.dead) ∧ w = w' := by
  go_enter Try.func15, Try.ntmps15
  go_wp2_with fail
  refine (asked_any _ _ _ h).mono ?_
  rintro e w' ⟨rfl, rfl⟩
  have e1 : (deadNo s.dead == 130) = s.dead := by unfold deadNo; cases s.dead <;> rfl
  go_wp2_with fail
  go_ret
  exact ⟨rfl, rfl⟩

theorem log_any (b : Nat) (s : DSt) (w : World) (h : Dk V w b s) :
    Calls Try.prog 14 #[.pointer (some ⟨b, 0, none⟩)] w fun e w' => ∃ v, e = .returned v ∧ w'.ownsRow w.heap.size 5 1 v s.log.length (byt s.log) ∧ Fr none' w w' := by
  have hD := Lib.hid h
  obtain ⟨lv, v0, v1, fv, hh, hl, _, _, hf, hll, _, _⟩ := h
  have hne : (deadNo s.dead == 1) = false := by unfold deadNo; split <;> rfl
  have hl' := hl
  obtain ⟨lo, lc, rfl⟩ := hl'.cells
  have c0 := cell_of_blk (o := 0) hh rfl
  clear hh hf
  go_enter Try.func14, Try.ntmps14
  go_wp2_with fail
  refine (asked_any _ _ _ hD.out).mono ?_
  rintro e w' ⟨rfl, rfl⟩
  go_wp2_with fail
  refine (clone_any _ _ _ hl (by omega)).mono ?_
  rintro e w1 ⟨v', rfl, ho, f1⟩
  go_wp2_with fail
  go_ret
  exact ⟨v', rfl, ho, f1⟩

theorem dnew_any (w : World) (hV : ∀ i, V i → i < w.heap.size := by intro i hi; exact hi.elim) : Calls Try.prog 9 #[] w fun e w' => ∃ b, e = .returned (.pointer (some ⟨b, 0, none⟩)) ∧ w.heap.size ≤ b ∧ Dk V w' b ⟨[], [], [], false, none⟩ ∧ Fr none' w w' := by
  go_enter Try.func9, Try.ntmps9
  go_wp2
  go_ret
  refine ⟨_, rfl, Nat.le_refl _, ⟨_, _, _, _, blk_alloc_new rfl, Bytes.nil _, Bytes.nil _, Bytes.nil _, rfl, by simp, by simp, by simp, Off.nil _, Off.nil _, Off.nil _, fun _ e => (by cases e), fun i hi => ⟨by have := hV i hi; simp; omega, by have := hV i hi; omega⟩⟩, (Fr.refl _ _).alloc _⟩


/-- What Slot does. -/
def DSt.slots (s : DSt) (k : Int) (B : List UInt8) : DSt × Int :=
  if s.dead then (s, 130) else if k ≠ 0 ∧ k ≠ 1 then (s, 9) else if 65536 < B.length then (s, 5) else ({ s.slot k.toNat (s.laid B) with dead := s.arm.isSome }, deadNo s.arm.isSome)

set_option maxHeartbeats 800000 in
theorem slot_any (b : Nat) (k : Int) (s : DSt) (bv : Value) (B : List UInt8) (w : World) (h : Dk V w b s) (hb : Bytes w bv B) (hB : B.length ≤ 140737488355328) :
    Calls Try.prog 17 #[.pointer (some ⟨b, 0, none⟩), .int .i64 k, bv] w fun e w' => e = .returned (.int .i64 (s.slots k B).2) ∧ Dk V w' b (s.slots k B).1 ∧ Fr (one b) w w' := by
  have hD := Lib.hid h
  obtain ⟨bo, bc, rfl⟩ := hb.cells
  by_cases hd : s.dead = true
  · have e1 : s.slots k B = (s, 130) := by unfold DSt.slots; rw [if_pos hd]
    rw [e1]
    clear e1
    go_enter Try.func17, Try.ntmps17
    go_wp2_with fail
    refine (asked_any _ _ _ hD.out).mono ?_
    rintro e w' ⟨rfl, rfl⟩
    rw [hd]
    unfold deadNo
    clear hd
    go_wp2_with fail
    go_ret
    exact ⟨rfl, hD.out, Fr.refl _ _⟩
  have hd' : s.dead = false := by simpa using hd
  by_cases hk : k ≠ 0 ∧ k ≠ 1
  · have e1 : s.slots k B = (s, 9) := by unfold DSt.slots; rw [if_neg hd, if_pos hk]
    rw [e1]
    clear e1 hd
    have k0 : (k != 0) = true := by simpa using hk.1
    have k1 : (k != 1) = true := by simpa using hk.2
    clear hk
    go_enter Try.func17, Try.ntmps17
    go_wp2_with fail
    refine (asked_any _ _ _ hD.out).mono ?_
    rintro e w' ⟨rfl, rfl⟩
    rw [hd']
    unfold deadNo
    clear hd'
    go_wp2_with fail
    go_ret
    exact ⟨rfl, hD.out, Fr.refl _ _⟩
  have hk01 : k = 0 ∨ k = 1 := by omega
  by_cases hs : 65536 < B.length
  · have e1 : s.slots k B = (s, 5) := by unfold DSt.slots; rw [if_neg hd, if_neg hk, if_pos hs]
    rw [e1]
    clear e1 hd hk
    rcases hk01 with rfl | rfl
    all_goals
      go_enter Try.func17, Try.ntmps17
      go_wp2_with fail
      refine (asked_any _ _ _ hD.out).mono ?_
      rintro e w' ⟨rfl, rfl⟩
      rw [hd']
      unfold deadNo
      clear hd'
      go_wp2_with fail
      go_ret
      exact ⟨rfl, hD.out, Fr.refl _ _⟩
  have e1 : s.slots k B = ({ s.slot k.toNat (s.laid B) with dead := s.arm.isSome }, deadNo s.arm.isSome) := by unfold DSt.slots; rw [if_neg hd, if_neg hk, if_neg hs]
  rw [e1]
  clear e1 hd hk
  have hlay := laid_length s B
  have fd : Fr none' w w.drew := (Fr.refl _ _).drew
  have hw := write_any b s (.slice none 0 0) _ [] B w.drew (hD.out.keep0 fd) (Bytes.nil _) (hb.keep0 fd) (by simp) (by omega)
  have hw' := Lib.hid hw
  clear hw fd
  rcases hk01 with rfl | rfl
  · go_enter Try.func17, Try.ntmps17
    go_wp2_with fail
    refine (asked_any _ _ _ hD.out).mono ?_
    rintro e w' ⟨rfl, rfl⟩
    rw [hd']
    unfold deadNo
    clear hd'
    go_wp2_with fail
    go_region_held3 (fun _ => True) (trivial)
      (first | (go_at_call 39; refine (hw'.out).mono ?_; rintro e w1 ⟨v', rfl, ho, hd1, f1⟩; obtain ⟨vo, vc, rfl⟩ := Bytes.cells (w := w1) (L := [] ++ s.laid B) (Sl.of_own ho); obtain ⟨lv', v0', v1', fv', hh', hrest⟩ := id hd1; have c1' := cell_of_blk (o := 1 + 0) hh' rfl; have z1' := free_of_blk (o := 1 + 0) hh'; have hd2 := Lib.hid hd1; have ho2 := Lib.hid ho; clear hh' hrest hd1 ho))
    go_wp2_with fail
    go_ret
    have hd3 := hd2.out.setSlot (Sl.of_own ho2.out : Bytes w1 _ ([] ++ s.laid B)) (by simp; omega) 0 (by omega) (Off.own ho2.out hD.out.old)
    rw [List.nil_append] at hd3
    exact ⟨rfl, hd3, f1.ofDrew.set1 _⟩
  · go_enter Try.func17, Try.ntmps17
    go_wp2_with fail
    refine (asked_any _ _ _ hD.out).mono ?_
    rintro e w' ⟨rfl, rfl⟩
    rw [hd']
    unfold deadNo
    clear hd'
    go_wp2_with fail
    go_region_held3 (fun _ => True) (trivial)
      (first | (go_at_call 39; refine (hw'.out).mono ?_; rintro e w1 ⟨v', rfl, ho, hd1, f1⟩; obtain ⟨vo, vc, rfl⟩ := Bytes.cells (w := w1) (L := [] ++ s.laid B) (Sl.of_own ho); obtain ⟨lv', v0', v1', fv', hh', hrest⟩ := id hd1; have c1' := cell_of_blk (o := 1 + 1) hh' rfl; have z1' := free_of_blk (o := 1 + 1) hh'; have hd2 := Lib.hid hd1; have ho2 := Lib.hid ho; clear hh' hrest hd1 ho))
    go_wp2_with fail
    go_ret
    have hd3 := hd2.out.setSlot (Sl.of_own ho2.out : Bytes w1 _ ([] ++ s.laid B)) (by simp; omega) 1 (by omega) (Off.own ho2.out hD.out.old)
    rw [List.nil_append] at hd3
    exact ⟨rfl, hd3, f1.ofDrew.set1 _⟩


/-- Slots hands both slots back, each in new memory. -/
theorem slots_any (b : Nat) (s : DSt) (w : World) (h : Dk V w b s) :
    Calls Try.prog 18 #[.pointer (some ⟨b, 0, none⟩)] w fun e w' => ∃ v0 v1, e = .returned (.agg #[v0, v1]) ∧ w'.ownsRow w.heap.size 5 1 v0 s.s0.length (byt s.s0) ∧ w'.ownsRow w.heap.size 5 1 v1 s.s1.length (byt s.s1) ∧ (∀ g, v0.ownBlock = some g → v1.ownBlock ≠ some g) ∧ Fr none' w w' := by
  have hD := Lib.hid h
  obtain ⟨lv, v0, v1, fv, hh, _, h0, h1, hf, hll, r0, r1⟩ := h
  have hne : (deadNo s.dead == 1) = false := by unfold deadNo; split <;> rfl
  have h0' := h0
  have h1' := h1
  obtain ⟨a0, k0, rfl⟩ := h0'.cells
  obtain ⟨a1, k1, rfl⟩ := h1'.cells
  have c1 : w.cell? ⟨b, 1, none⟩ = some (.slice a0 s.s0.length k0) := cell_of_blk (o := 1) hh rfl
  have c2 : w.cell? ⟨b, 2, none⟩ = some (.slice a1 s.s1.length k1) := cell_of_blk (o := 2) hh rfl
  have hbw := lt_of_blk hh
  have ix0 : ∀ (x0 x1 : Value) (w : World), (Instr.index 34 (.agg #[x0, x1]) (.int .i64 0)).run Try.prog w = .ok x0 w := fun _ _ _ => by kernel_rfl
  have ix1 : ∀ (x0 x1 : Value) (w : World), (Instr.index 34 (.agg #[x0, x1]) (.int .i64 1)).run Try.prog w = .ok x1 w := fun _ _ _ => by kernel_rfl
  have fa : Fr none' w (w.alloc (Obj.cells #[.slice none 0 0, .slice none 0 0] 34)) := (Fr.refl _ _).alloc _
  have hfa := Lib.hid fa
  clear hf fa hh h0' h1'
  go_enter Try.func18, Try.ntmps18
  go_wp2_with fail
  refine (asked_any _ _ _ (hD.out.keep0 hfa.out)).mono ?_
  rintro e w' ⟨rfl, rfl⟩
  go_wp2_with fail
  refine wp_loop_rounds 3 ?_
  rw [rounds_succ]
  go_wp2_with fail
  refine (clone_any _ _ _ (h0.keep0 hfa.out) (by omega)).mono ?_
  rintro e w1 ⟨u0, rfl, o0, f1⟩
  simp only [World.size_alloc] at o0
  have B0 : w1.heap[w.heap.size]? = some (.cells #[.slice none 0 0, .slice none 0 0] 34 (0, 0)) := f1.blk (blk_alloc_new rfl) id
  have s1 := f1.size
  simp only [World.size_alloc] at s1
  have d0 : w1.cell? ⟨w.heap.size, 0, none⟩ = some (.slice none 0 0) := cell_of_blk B0 rfl
  have z0 := free_of_blk (o := 0) B0
  obtain ⟨b0, m0, rfl⟩ := Bytes.cells (w := w1) (L := s.s0) (Sl.of_own o0)
  have n0 := ownsRow_block o0
  go_wp2_with fail
  rw [rounds_succ]
  have f2 : Fr none' w (w1.setCell ⟨w.heap.size, 0, none⟩ (.slice b0 s.s0.length m0)) := (hfa.out.trans f1 (fun _ _ h => h)).setCell _ _ (.inl (Nat.le_refl _))
  go_wp2_with fail
  refine (clone_any _ _ _ (h1.keep0 f2) (by omega)).mono ?_
  rintro e w2 ⟨u1, rfl, o1, f3⟩
  simp only [World.size_setCell] at o1
  have B1 : w2.heap[w.heap.size]? = some (.cells #[.slice b0 s.s0.length m0, .slice none 0 0] 34 (0, 0)) := f3.blk (by rw [blk_set_at B0 rfl]; rfl) id
  have e0 : w2.cell? ⟨w.heap.size, 0, none⟩ = some (.slice b0 s.s0.length m0) := cell_of_blk B1 rfl
  have e1 : w2.cell? ⟨w.heap.size, 1, none⟩ = some (.slice none 0 0) := cell_of_blk B1 rfl
  have z1 := free_of_blk (o := 1) B1
  have z0' := free_of_blk (o := 0) B1
  obtain ⟨b1, m1, rfl⟩ := Bytes.cells (w := w2) (L := s.s1) (Sl.of_own o1)
  have n1 := ownsRow_block o1
  have hn0 := Lib.hid n0
  have hn1 := Lib.hid n1
  have s2 := f3.size
  simp only [World.size_setCell] at s2
  clear d0 z0 n0 n1
  go_wp2_with fail
  rw [rounds_succ]
  go_wp2_with fail
  refine bodyPost_ret (v := .agg #[.slice b0 s.s0.length m0, .slice b1 s.s1.length m1]) (by simp [results, Try.results18, go_sem, e0, e1]; done) rfl ⟨_, _, rfl, ?_, ?_, ?_, ?_⟩
  · have Fa : Fr (one w.heap.size) w1 (w1.setCell ⟨w.heap.size, 0, none⟩ (.slice b0 s.s0.length m0)) := (Fr.refl _ _).set1 _
    have Fx : Fr (one w.heap.size) w2 (((w2.setCell ⟨w.heap.size, 1, none⟩ (.slice b1 s.s1.length m1)).setCell ⟨w.heap.size, 0, none⟩ (.slice b0 s.s0.length m0)).setCell ⟨w.heap.size, 1, none⟩ (.slice b1 s.s1.length m1)) := (((Fr.refl _ _).set1 _).set1 _).set1 _
    have hne' : ∀ g, (Value.slice b0 s.s0.length m0).ownBlock = some g → ¬ one w.heap.size g := fun g h e => by cases e; have := (hn0.out _ h).1; omega
    exact ownsRow_base (ownsRow_keep (ownsRow_keep (ownsRow_keep o0 Fa hne') f3 (fun _ _ h => h)) Fx hne') (by omega)
  · have Fx : Fr (one w.heap.size) w2 (((w2.setCell ⟨w.heap.size, 1, none⟩ (.slice b1 s.s1.length m1)).setCell ⟨w.heap.size, 0, none⟩ (.slice b0 s.s0.length m0)).setCell ⟨w.heap.size, 1, none⟩ (.slice b1 s.s1.length m1)) := (((Fr.refl _ _).set1 _).set1 _).set1 _
    exact ownsRow_base (ownsRow_keep o1 Fx (fun g h e => by cases e; have := (hn1.out _ h).1; omega)) (by omega)
  · intro g h h'
    have := hn0.out g h
    have := hn1.out g h'
    omega
  · exact (((f2.trans f3 (fun _ _ h => h)).setCell _ _ (.inl (Nat.le_refl _))).setCell _ _ (.inl (Nat.le_refl _))).setCell _ _ (.inl (Nat.le_refl _))

end Go.Proofs.Ytnflppgmccddoaa
