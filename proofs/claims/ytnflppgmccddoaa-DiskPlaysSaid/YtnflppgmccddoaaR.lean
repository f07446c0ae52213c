/-
  gimbalref13's disk: the same steps as the program's. Rd V F w b s: the reference's disk at block b stands at s; no block of V holds bytes of it; its own blocks (itself, and what its journal lies in) are in F.
-/
import Derived.Test.YtnflppgmccddoaaC
import Derived.Test.YtnflppgmccddoaaSl2
import Derived.RegionTactic
import Derived.Deep.RegionHeld3
import Derived.Deep.DeepCutAuto
namespace Go.Proofs.Ytnflppgmccddoaa
set_option linter.unusedVariables false
open Go.RowKit
variable {V F : Nat → Prop}

/-- How Armed stands. -/
def armNo : Option Int → Int
  | none => -1
  | some c => c

def Rd (V F : Nat → Prop) (w : World) (b : Nat) (s : DSt) : Prop :=
  ∃ lv v0 v1, w.heap[b]? = some (.cells #[lv, v0, v1, .bool s.dead, .int .i64 (armNo s.arm)] 56 (0, 0)) ∧ w.ownsRow 0 5 1 lv s.log.length (byt s.log) ∧ Bytes w v0 s.s0 ∧ Bytes w v1 s.s1 ∧
    (s.log.length ≤ 1048576 ∧ s.s0.length ≤ 65536 ∧ s.s1.length ≤ 65536) ∧ (∀ c, s.arm = some c → 0 ≤ c ∧ c ≤ 9223372036854775807) ∧
    (∀ i, lv.ownBlock = some i → F i ∧ ¬ V i) ∧ (Off V v0 ∧ Off V v1 ∧ Off F v0 ∧ Off F v1) ∧ F b ∧ ¬ V b ∧ (∀ i, V i → i < w.heap.size) ∧ ∀ i, F i → i < w.heap.size

theorem Sl.cells1 {w : World} {v : Value} {k n : Nat} {cs : List Value} (h : Sl w v k n cs) : ∃ a c, v = .slice a n c := by
  obtain ⟨a, c, h, _⟩ := h
  exact ⟨a, c, h⟩

theorem Rd.fb {w : World} {b : Nat} {s : DSt} (h : Rd V F w b s) : F b := by
  obtain ⟨_, _, _, _, _, _, _, _, _, _, _, h, _⟩ := h
  exact h
theorem Rd.old {w : World} {b : Nat} {s : DSt} (h : Rd V F w b s) : (∀ i, V i → i < w.heap.size) ∧ ∀ i, F i → i < w.heap.size := by
  obtain ⟨_, _, _, _, _, _, _, _, _, _, _, _, _, h⟩ := h
  exact h
theorem Rd.lt {w : World} {b : Nat} {s : DSt} (h : Rd V F w b s) : b < w.heap.size := by
  obtain ⟨_, _, _, h, _⟩ := h
  exact lt_of_blk h

/-- What others' blocks turn leaves it as it was. -/
theorem Rd.keep {w w' : World} {b : Nat} {s : DSt} {S : Nat → Prop} (h : Rd V F w b s) (f : Fr S w w') (hS : ∀ i, S i → ¬ F i) (hs : NoByte w S) : Rd V F w' b s := by
  obtain ⟨lv, v0, v1, hh, hl, h0, h1, q, qa, ol, oo, fb, vb, ov, of⟩ := h
  exact ⟨lv, v0, v1, f.blk hh (fun e => hS _ e fb), ownsRow_keep hl f (fun i hi e => hS _ e (ol i hi).1), h0.keep f (fun b hb hS => (hs b hb hS).1), h1.keep f (fun b hb hS => (hs b hb hS).1), q, qa, ol, oo, fb, vb,
    fun i hi => Nat.lt_of_lt_of_le (ov i hi) f.size, fun i hi => Nat.lt_of_lt_of_le (of i hi) f.size⟩
theorem Rd.keep0 {w w' : World} {b : Nat} {s : DSt} (h : Rd V F w b s) (f : Fr none' w w') : Rd V F w' b s := h.keep f (fun _ h => h.elim) (noByte_none w)
/-- Turning what lies in V leaves it as it was. -/
theorem Rd.keepV {w w' : World} {b : Nat} {s : DSt} (h : Rd V F w b s) (f : Fr V w w') : Rd V F w' b s := by
  obtain ⟨lv, v0, v1, hh, hl, h0, h1, q, qa, ol, oo, fb, vb, ov, of⟩ := h
  exact ⟨lv, v0, v1, f.blk hh vb, ownsRow_keep hl f (fun i hi => (ol i hi).2), h0.keepOff oo.1 f, h1.keepOff oo.2.1 f, q, qa, ol, oo, fb, vb,
    fun i hi => Nat.lt_of_lt_of_le (ov i hi) f.size, fun i hi => Nat.lt_of_lt_of_le (of i hi) f.size⟩
/-- New blocks lie apart from it. -/
theorem Rd.shift {V' : Nat → Prop} {w w' : World} {b : Nat} {s : DSt} (h : Rd V F w b s) (f : Fr none' w w') (hV : ∀ i, V' i → (V i ∨ w.heap.size ≤ i) ∧ i < w'.heap.size) : Rd V' F w' b s := by
  obtain ⟨lv, v0, v1, hh, hl, h0, h1, q, qa, ol, oo, fb, vb, ov, of⟩ := h
  have hb := lt_of_blk hh
  have hlo := ownsRow_block hl
  refine ⟨lv, v0, v1, f.blk hh id, ownsRow_keep hl f (fun _ _ h => h), h0.keep0 f, h1.keep0 f, q, qa, fun i hi => ⟨(ol i hi).1, fun hv => ?_⟩, ⟨oo.1.shift h0 (fun i hi => (hV i hi).1), oo.2.1.shift h1 (fun i hi => (hV i hi).1), oo.2.2⟩, fb, fun hv => ?_,
    fun i hi => (hV i hi).2, fun i hi => Nat.lt_of_lt_of_le (of i hi) f.size⟩
  · rcases (hV i hv).1 with h | h
    · exact (ol i hi).2 h
    · have := (hlo i hi).2; omega
  · rcases (hV b hv).1 with h | h
    · exact vb h
    · omega

/-- A disk keeps through what the reference's does. -/
theorem Dk.move {V' : Nat → Prop} {w w' : World} {b : Nat} {s : DSt} (h : Dk V w b s) (f : Fr V w w') (hV : ∀ i, V' i → (V i ∨ w.heap.size ≤ i) ∧ i < w'.heap.size) : Dk V' w' b s := by
  have k := h.keepV f
  obtain ⟨lv, v0, v1, fv, hh, hl, h0, h1, hf, q0, q1, q2, ol, o0, o1, of, ov⟩ := h
  have hbw := lt_of_blk hh
  obtain ⟨lv', v0', v1', fv', hh', hl', h0', h1', hf', _⟩ := k
  have e := (f.blk hh (fun e => (ov _ e).2 rfl)).symm.trans hh'
  injection e with e
  injection e with e
  injection e with e
  simp only [List.cons.injEq, and_true] at e
  obtain ⟨rfl, rfl, rfl, _, rfl⟩ := e
  refine ⟨lv, v0, v1, fv, hh', hl', h0', h1', hf', q0, q1, q2, ol.shift hl (fun i hi => (hV i hi).1), o0.shift h0 (fun i hi => (hV i hi).1), o1.shift h1 (fun i hi => (hV i hi).1), fun cb hcb hv => ?_, fun i hi => ⟨(hV i hi).2, ?_⟩⟩
  · rcases (hV _ hv).1 with hv' | hv'
    · exact of cb hcb hv'
    · cases hc : s.arm with
      | none => rw [hc] at hf; rw [hf] at hcb; cases hcb
      | some c =>
        rw [hc] at hf
        obtain ⟨_, _, cb', h2, h3⟩ := hf
        rw [h2] at hcb
        injection hcb with _ _ hcb
        injection hcb with hcb
        injection hcb with hcb
        injection hcb with hcb
        injection hcb with hcb
        injection hcb with hcb
        subst hcb
        have := lt_of_blk h3
        omega
  · rcases (hV _ hi).1 with hv' | hv'
    · exact (ov i hv').2
    · omega

theorem rnew_any (w : World) : Calls Try.prog 10 #[] w fun e w' => e = .returned (.pointer (some ⟨w.heap.size, 0, none⟩)) ∧ Rd none' (one w.heap.size) w' w.heap.size ⟨[], [], [], false, none⟩ ∧ Fr none' w w' := by
  go_enter Try.func10, Try.ntmps10
  go_wp2
  go_ret
  refine ⟨rfl, ⟨_, _, _, blk_alloc_new rfl, World.ownsRow_nil _ _ _ _, Bytes.nil _, Bytes.nil _, ⟨by simp, by simp, by simp⟩, fun c h => (by cases h), fun i h => (by cases h), ⟨Off.nil _, Off.nil _, Off.nil _, Off.nil _⟩, rfl, id, fun _ h => h.elim, fun i h => by cases h; simp⟩, (Fr.refl _ _).alloc _⟩

theorem rdead_any (b : Nat) (s : DSt) (w : World) (h : Rd V F w b s) :
    Calls Try.prog 36 #[.pointer (some ⟨b, 0, none⟩)] w fun e w' => e = .returned (.bool s.dead) ∧ w = w' := by
  obtain ⟨lv, v0, v1, hh, _⟩ := h
  have c3 := cell_of_blk (o := 3) hh rfl
  clear hh
  go_enter Try.func36, Try.ntmps36
  go_wp2_with fail
  go_ret
  exact ⟨rfl, rfl⟩

theorem rends_any (b : Nat) (s : DSt) (w : World) (h : Rd V F w b s) :
    Calls Try.prog 45 #[.pointer (some ⟨b, 0, none⟩)] w fun e w' => e = .returned (.int .i64 (deadNo s.dead)) ∧ w = w' := by
  obtain ⟨lv, v0, v1, hh, _⟩ := h
  have c3 := cell_of_blk (o := 3) hh rfl
  clear hh
  cases hd : s.dead
  all_goals
    rw [hd] at c3
    clear hd
    unfold deadNo
    go_enter Try.func45, Try.ntmps45
    go_wp2_with fail
    go_ret
    exact ⟨rfl, rfl⟩

theorem rlog_any (b : Nat) (s : DSt) (w : World) (h : Rd V F w b s) :
    Calls Try.prog 35 #[.pointer (some ⟨b, 0, none⟩)] w fun e w' => ∃ v, e = .returned v ∧ w'.ownsRow w.heap.size 5 1 v s.log.length (byt s.log) ∧ Fr none' w w' := by
  obtain ⟨lv, v0, v1, hh, hl, _, _, ⟨q, _, _⟩, _⟩ := h
  have hb : Bytes w lv s.log := Sl.of_own hl
  obtain ⟨lo, lc, rfl⟩ := hb.cells
  have c0 := cell_of_blk (o := 0) hh rfl
  clear hh hl
  go_enter Try.func35, Try.ntmps35
  go_wp2_with fail
  refine (copyBytes_any _ _ _ hb (by omega)).mono ?_
  rintro e w1 ⟨v', rfl, ho, f1, -⟩
  go_wp2_with fail
  go_ret
  exact ⟨v', rfl, ho, f1⟩

/-- asked: what is wrong with a number of bytes. -/
def DSt.askedN (s : DSt) (n : Int) : Int := if s.dead then 130 else if n < 0 ∨ s.log.length < n then 9 else 0

theorem rasked_any (b : Nat) (n : Int) (s : DSt) (w : World) (h : Rd V F w b s) :
    Calls Try.prog 46 #[.pointer (some ⟨b, 0, none⟩), .int .i64 n] w fun e w' => e = .returned (.int .i64 (s.askedN n)) ∧ w = w' := by
  obtain ⟨lv, v0, v1, hh, hl, _, _, ⟨q, _, _⟩, _⟩ := h
  have hb : Bytes w lv s.log := Sl.of_own hl
  obtain ⟨lo, lc, rfl⟩ := hb.cells
  have c0 := cell_of_blk (o := 0) hh rfl
  have c3 := cell_of_blk (o := 3) hh rfl
  clear hh hl hb
  cases hd : s.dead
  · rw [hd] at c3
    rcases (show n < 0 ∨ (0 ≤ n ∧ (s.log.length : Int) < n) ∨ (0 ≤ n ∧ n ≤ s.log.length) by omega) with hn | ⟨hn, hn'⟩ | ⟨hn, hn'⟩
    · have e1 : s.askedN n = 9 := by unfold DSt.askedN; rw [if_neg (by simp [hd]), if_pos (.inl hn)]
      rw [e1]
      clear e1 hd
      go_enter Try.func46, Try.ntmps46
      go_wp2_with fail
      go_ret
      exact ⟨rfl, rfl⟩
    · have e1 : s.askedN n = 9 := by unfold DSt.askedN; rw [if_neg (by simp [hd]), if_pos (.inr hn')]
      rw [e1]
      clear e1 hd
      go_enter Try.func46, Try.ntmps46
      go_wp2_with fail
      go_ret
      exact ⟨rfl, rfl⟩
    · have e1 : s.askedN n = 0 := by unfold DSt.askedN; rw [if_neg (by simp [hd]), if_neg (by omega)]
      rw [e1]
      clear e1 hd
      go_enter Try.func46, Try.ntmps46
      go_wp2_with fail
      go_ret
      exact ⟨rfl, rfl⟩
  · rw [hd] at c3
    have e1 : s.askedN n = 130 := by unfold DSt.askedN; rw [if_pos hd]
    rw [e1]
    clear e1 hd
    go_enter Try.func46, Try.ntmps46
    go_wp2_with fail
    go_ret
    exact ⟨rfl, rfl⟩

theorem Rd.noByte {w : World} {b : Nat} {s : DSt} (h : Rd V F w b s) : NoByte w (one b) := by
  obtain ⟨lv, v0, v1, hb, hl, h0, h1, _⟩ := h
  rintro b' hb' rfl
  have nb : ∀ {v : Value} {L : List UInt8}, Bytes w v L → ∀ x, v ≠ .int .u8 x := by
    rintro v L ⟨ao, cap, rfl, _⟩ x h; cases h
  refine ⟨fun o x hx => ?_, fun c hc => by rw [hb] at hc; injection hc with hc; injection hc with hc; simp at hc⟩
  simp only [World.cell?, hb, Option.isSome_none, Bool.false_eq_true, if_false] at hx
  match o, hx with
  | 0, hx => exact nb (Sl.of_own hl : Bytes w lv s.log) x (by simpa using hx)
  | 1, hx => exact nb h0 x (by simpa using hx)
  | 2, hx => exact nb h1 x (by simpa using hx)
  | 3, hx => simp at hx
  | 4, hx => simp at hx
  | o + 5, hx => simp at hx
/-- What its journal lies in is not itself. -/
theorem Rd.row_ne {w : World} {b n : Nat} {c : Array Value} {t : TypeId} {z : Nat × Nat} {lv : Value} {cs : List Value} (hh : w.heap[b]? = some (.cells c t z)) (ht : t ≠ 5) (hl : w.ownsRow 0 5 1 lv n cs) : ∀ i, lv.ownBlock = some i → ¬ one b i := by
  rintro i hi rfl
  obtain ⟨_, hl⟩ := hl
  rcases hl with ⟨rfl, _⟩ | ⟨g, cap, cur, rfl, _, hg, _⟩
  · cases hi
  · cases hi
    rw [hh] at hg
    injection hg with hg
    injection hg with _ hg
    exact ht hg

/-- Cells 3 and 4 are turned. -/
theorem Rd.set34 {w : World} {b : Nat} {s : DSt} (h : Rd V F w b s) (d : Bool) (a : Option Int) (ha : ∀ c, a = some c → 0 ≤ c ∧ c ≤ 9223372036854775807) {w' : World} (f : Fr (one b) w w')
    (hb : w'.heap[b]? = ((w.heap[b]?).map (putObj ⟨b, 3, none⟩ (.bool d))).map (putObj ⟨b, 4, none⟩ (.int .i64 (armNo a)))) : Rd V F w' b { s with dead := d, arm := a } := by
  have nb := h.noByte
  obtain ⟨lv, v0, v1, hh, hl, h0, h1, q, qa, ol, oo, fb, vb, ov, of⟩ := h
  exact ⟨lv, v0, v1, by rw [hb, hh]; rfl, ownsRow_keep hl f (Rd.row_ne hh (by decide) hl), h0.keep f (fun b hb hS => (nb b hb hS).1), h1.keep f (fun b hb hS => (nb b hb hS).1), q, ha, ol, oo, fb, vb,
    fun i hi => Nat.lt_of_lt_of_le (ov i hi) f.size, fun i hi => Nat.lt_of_lt_of_le (of i hi) f.size⟩

theorem rrevive_any (b : Nat) (s : DSt) (w : World) (h : Rd V F w b s) :
    Calls Try.prog 32 #[.pointer (some ⟨b, 0, none⟩)] w fun e w' => e = .returned (.int .i64 0) ∧ Rd V F w' b s.revived ∧ Fr (one b) w w' := by
  have hD := Lib.hid h
  obtain ⟨lv, v0, v1, hh, _⟩ := h
  have c3 := cell_of_blk (o := 3) hh rfl
  have z3 := free_of_blk (o := 3) hh
  have c4 := cell_of_blk (o := 4) hh rfl
  have z4 := free_of_blk (o := 4) hh
  clear hh
  go_enter Try.func32, Try.ntmps32
  go_wp2_with fail
  go_ret
  have f : Fr (one b) w ((w.setCell ⟨b, 3, none⟩ (.bool false)).setCell ⟨b, 4, none⟩ (.int .i64 (-1))) := by (repeat (first | exact Fr.refl _ _ | assumption | apply Fr.drew | apply Fr.drewN | apply Fr.alloc | (refine Fr.setCell ?_ _ _ (by first | exact .inr rfl | (left; simp; done) | (left; simp; omega) | (right; simp [one, two]; done)))))
  exact ⟨rfl, hD.out.set34 false none (fun c h => by cases h) f (by rw [blk_set_same rfl, blk_set_same rfl]; rfl), f⟩

theorem rarm_any (b : Nat) (c : Int) (s : DSt) (w : World) (h : Rd V F w b s) (hc : c ≤ 9223372036854775807) :
    Calls Try.prog 31 #[.pointer (some ⟨b, 0, none⟩), .int .i64 c] w fun e w' => e = .returned (.int .i64 (s.armed c).2) ∧ Rd V F w' b (s.armed c).1 ∧ Fr (one b) w w' := by
  have hD := Lib.hid h
  obtain ⟨lv, v0, v1, hh, _⟩ := h
  have hhh := Lib.hid hh
  have c3 := cell_of_blk (o := 3) hh rfl
  have c4 := cell_of_blk (o := 4) hh rfl
  have z4 := free_of_blk (o := 4) hh
  clear hh
  cases hd : s.dead
  · rw [hd] at c3
    by_cases hn : c < 0
    · have e1 : s.armed c = (s, 2) := by unfold DSt.armed; rw [if_neg (by simp [hd]), if_pos hn]
      rw [e1]
      clear e1 hd
      go_enter Try.func31, Try.ntmps31
      go_wp2_with fail
      go_ret
      exact ⟨rfl, hD.out, Fr.refl _ _⟩
    · have e1 : s.armed c = ({ s with arm := some c }, 0) := by unfold DSt.armed; rw [if_neg (by simp [hd]), if_neg hn]
      rw [e1]
      have hd' := Lib.hid hd
      clear e1 hd
      go_enter Try.func31, Try.ntmps31
      go_wp2_with fail
      go_ret
      have f : Fr (one b) w (w.setCell ⟨b, 4, none⟩ (.int .i64 c)) := by (repeat (first | exact Fr.refl _ _ | assumption | apply Fr.drew | apply Fr.drewN | apply Fr.alloc | (refine Fr.setCell ?_ _ _ (by first | exact .inr rfl | (left; simp; done) | (left; simp; omega) | (right; simp [one, two]; done)))))
      have k := hD.out.set34 s.dead (some c) (fun c' h => by cases h; omega) f (by rw [blk_set_same rfl, hhh.out]; rfl)
      exact ⟨rfl, k, f⟩
  · rw [hd] at c3
    have e1 : s.armed c = (s, 130) := by unfold DSt.armed; rw [if_pos hd]
    rw [e1]
    clear e1 hd
    go_enter Try.func31, Try.ntmps31
    go_wp2_with fail
    go_ret
    exact ⟨rfl, hD.out, Fr.refl _ _⟩

/-- lays: what is written of a write. -/
theorem rlays_any (b : Nat) (s : DSt) (bv : Value) (B : List UInt8) (w : World) (h : Rd V F w b s) (hb : Bytes w bv B) (hB : B.length ≤ 1048576) (hd0 : s.dead = false) :
    Calls Try.prog 44 #[.pointer (some ⟨b, 0, none⟩), bv] w fun e w' => ∃ v', e = .returned v' ∧ w'.ownsRow w.heap.size 5 1 v' (s.laid B).length (byt (s.laid B)) ∧ Rd V F w' b { s with dead := s.arm.isSome } ∧ w'.heap[b]? = (w.heap[b]?).map (putObj ⟨b, 3, none⟩ (.bool s.arm.isSome)) ∧ Fr (one b) w w' := by
  have hD := Lib.hid h
  have hnb := Lib.hid h.noByte
  obtain ⟨lv, v0, v1, hh, _, _, _, _, qa, _⟩ := h
  have hhh := Lib.hid hh
  have c3 := cell_of_blk (o := 3) hh rfl
  have z3 := free_of_blk (o := 3) hh
  have c4 := cell_of_blk (o := 4) hh rfl
  rw [hd0] at c3
  have hd' := Lib.hid hd0
  have qa' := Lib.hid qa
  clear hh hd0 qa
  obtain ⟨bo, bc, rfl⟩ := hb.cells
  cases harm : s.arm with
  | none =>
    rw [harm] at c4
    have har := Lib.hid harm
    clear harm
    unfold armNo at c4
    have hlaid : Hid (s.laid B = B) := Lib.hid (by unfold DSt.laid; rw [har.out])
    go_enter Try.func44, Try.ntmps44
    go_wp2_with fail
    refine (copyBytes_any _ _ _ hb (by omega)).mono ?_
    rintro e w1 ⟨v', rfl, ho, f1, -⟩
    go_wp2_with fail
    go_ret
    rw [hlaid.out]
    refine ⟨v', rfl, ho, ?_, by rw [f1.block b hD.out.lt id, hhh.out, hd'.out]; rfl, f1.mono (fun _ _ h => h.elim)⟩
    have k := hD.out.keep0 f1
    have e : ({ s with dead := (none : Option Int).isSome, arm := none } : DSt) = s := by
      have h1 := hd'.out
      have h2 := har.out
      cases s
      simp only at h1 h2
      subst h1; subst h2
      rfl
    rw [e]
    exact k
  | some c =>
    rw [harm] at c4
    have har := Lib.hid harm
    obtain ⟨q0, q1⟩ := qa'.out c harm
    clear harm
    unfold armNo at c4
    have hlaid : Hid (s.laid B = B.take c.toNat) := Lib.hid (by unfold DSt.laid; rw [har.out])
    have hbc := hb.facts.2.1
    obtain ⟨c, rfl⟩ := Int.eq_ofNat_of_zero_le q0
    have f0 : Fr (one b) w (w.setCell ⟨b, 3, none⟩ (.bool true)) := (Fr.refl _ _).set1 _
    have hb0 := hb.keep f0 (fun b hb hS => (hnb.out b hb hS).1)
    have f0' := Lib.hid f0
    clear f0
    rcases (show B.length ≤ c ∨ c < B.length by omega) with hle | hle
    · go_enter Try.func44, Try.ntmps44
      go_wp2_with fail
      refine (copyBytes_any _ _ _ hb0 (by omega)).mono ?_
      rintro e w1 ⟨v', rfl, ho, f1, -⟩
      go_wp2_with fail
      go_ret
      rw [hlaid.out, Int.toNat_natCast, List.take_of_length_le hle]
      have f := f0'.out.trans f1 (fun _ _ h => h.elim)
      have k := hD.out.set34 true (some (c : Int)) (fun c' h => by cases h; omega) f0'.out (by rw [blk_set_same rfl, hhh.out, har.out]; rfl)
      rw [World.size_setCell] at ho
      exact ⟨v', rfl, ho, k.keep0 f1, by rw [f1.block b (by simpa using hD.out.lt) id, blk_set_same rfl]; rfl, f⟩
    · have hb1 := hb0.take rfl c (by omega)
      go_enter Try.func44, Try.ntmps44
      go_wp2_with fail
      refine (copyBytes_any _ _ _ hb1 (by simp; omega)).mono ?_
      rintro e w1 ⟨v', rfl, ho, f1, -⟩
      go_wp2_with fail
      go_ret
      rw [hlaid.out, Int.toNat_natCast]
      have f := f0'.out.trans f1 (fun _ _ h => h.elim)
      have k := hD.out.set34 true (some (c : Int)) (fun c' h => by cases h; omega) f0'.out (by rw [blk_set_same rfl, hhh.out, har.out]; rfl)
      rw [World.size_setCell] at ho
      exact ⟨v', rfl, ho, k.keep0 f1, by rw [f1.block b (by simpa using hD.out.lt) id, blk_set_same rfl]; rfl, f⟩

theorem Bytes.dropMap {w : World} {ao : Option Addr} {n cap m : Nat} {L : List UInt8} (h : Bytes w (.slice ao n cap) L) (hm : m ≤ n) (hc : ¬ cap = m) : Bytes w (.slice (Option.map (fun x => x.add m) ao) (n - m) (cap - m)) (L.drop m) := by
  obtain ⟨_, f1, f2⟩ := h.facts
  refine h.drop m hm _ (fun h => by rw [h]; rfl) (fun g off _ h => by rw [h]; simp [Addr.add]) (fun h => ?_)
  cases ao with
  | none => have := f2 rfl; omega
  | some a => cases h
theorem Bytes.dropAll {w : World} {ao : Option Addr} {n cap m : Nat} {L : List UInt8} (h : Bytes w (.slice ao n cap) L) (hm : m ≤ n) (hc : cap = m) : Bytes w (.slice ao (n - m) 0) (L.drop m) := by
  obtain ⟨e, f1, f2⟩ := h.facts
  have h0 : n - m = 0 := by omega
  rw [List.drop_eq_nil_of_le (by omega), h0]
  exact Bytes.empty _ _ _ (fun _ => rfl)
theorem Bytes.mid {w : World} {ao : Option Addr} {k cap n m : Nat} {L : List UInt8} (h : Bytes w (.slice ao k cap) L) (hm : n + m ≤ k) (hc : ¬ cap = n) : Bytes w (.slice (Option.map (fun x => x.add n) ao) m (cap - n)) ((L.take (n + m)).drop n) := by
  have := (h.take rfl (n + m) hm).dropMap (m := n) (by omega) hc
  rwa [Nat.add_sub_cancel_left] at this
theorem Bytes.midAll {w : World} {ao : Option Addr} {k cap n m : Nat} {L : List UInt8} (h : Bytes w (.slice ao k cap) L) (hm : n + m ≤ k) (hc : cap = n) : Bytes w (.slice ao m 0) ((L.take (n + m)).drop n) := by
  have := (h.take rfl (n + m) hm).dropAll (m := n) (by omega) hc
  rwa [Nat.add_sub_cancel_left] at this
theorem drop_take_same {X : Type} (L : List X) (n m : Nat) : (L.drop n).take m = (L.take (n + m)).drop n := by rw [List.drop_take, Nat.add_sub_cancel_left]
/-- A slice behind its first bytes, as one step of the walk, whatever room it has. -/
theorem slice_l_ex {P : Program} (t : TypeId) (ht : P.underlying t = some (.slice (P.elem t))) (h1 : ∀ w, (sizeOf (P.elem t)).run P w = .ok 1 w) (ao : Option Addr) (n cap : Nat) (L : List UInt8) (w0 : World) (hb : Bytes w0 (.slice ao n cap) L) (lo : Int) (h0 : 0 ≤ lo) (hn : lo ≤ n) :
    ∃ a' c', (∀ w, (Instr.slice t (.slice ao n cap) (some (.int .i64 lo)) none none).run P w = .ok (.slice a' (n - lo.toNat) c') w) ∧ ∀ w, Bytes w (.slice ao n cap) L → Bytes w (.slice a' (n - lo.toNat) c') (L.drop lo.toNat) := by
  rcases (show cap = lo.toNat ∨ ¬ cap = lo.toNat by omega) with hc | hc
  · refine ⟨ao, 0, fun w => ?_, fun w hb => hb.dropAll (by omega) hc⟩
    rw [run_slice_l w t ao n cap ht .i64 lo h0 hn, h1]
    simp [Result.andThen, sliced, hc]
  · refine ⟨_, _, fun w => ?_, fun w hb => hb.dropMap (m := lo.toNat) (by omega) hc⟩
    rw [run_slice_l w t ao n cap ht .i64 lo h0 hn, h1]
    simp [Result.andThen, sliced, hc]
theorem slice_lh_ex {P : Program} (t : TypeId) (ht : P.underlying t = some (.slice (P.elem t))) (h1 : ∀ w, (sizeOf (P.elem t)).run P w = .ok 1 w) (ao : Option Addr) (k cap : Nat) (L : List UInt8) (w0 : World) (hb : Bytes w0 (.slice ao k cap) L) (lo hi : Int) (h0 : 0 ≤ lo) (hn : lo ≤ hi) (hk : hi ≤ k) :
    ∃ a' c', (∀ w, (Instr.slice t (.slice ao k cap) (some (.int .i64 lo)) (some (.int .i64 hi)) none).run P w = .ok (.slice a' (hi.toNat - lo.toNat) c') w) ∧ ∀ w, Bytes w (.slice ao k cap) L → Bytes w (.slice a' (hi.toNat - lo.toNat) c') ((L.take hi.toNat).drop lo.toNat) := by
  have hkc := hb.facts.2.1
  rcases (show cap = lo.toNat ∨ ¬ cap = lo.toNat by omega) with hc | hc
  · refine ⟨ao, 0, fun w => ?_, fun w hb => (hb.take rfl hi.toNat (by omega)).dropAll (by omega) hc⟩
    rw [run_slice_lh w t ao k cap ht .i64 .i64 lo hi h0 hn (by omega), h1]
    simp [Result.andThen, sliced, hc]
  · refine ⟨_, _, fun w => ?_, fun w hb => (hb.take rfl hi.toNat (by omega)).dropMap (m := lo.toNat) (by omega) hc⟩
    rw [run_slice_lh w t ao k cap ht .i64 .i64 lo hi h0 hn (by omega), h1]
    simp [Result.andThen, sliced, hc]
theorem eq_same {w : World} {u v : Value} {K L : List UInt8} (h : Bytes w u K) (h' : Bytes w v L) (he : K = L) : Calls Try.prog 19 #[u, v] w fun e w' => e = .returned (.bool true) ∧ w = w' := by
  refine (eqBytes_any u v K L w h h').mono ?_
  rintro e w' ⟨rfl, rfl⟩
  subst he
  simp

theorem Rd.relog {w w' : World} {b : Nat} {s : DSt} (h : Rd V F w b s) (f : Fr F w w') {lv' : Value} {L : List UInt8} (hb' : w'.heap[b]? = (w.heap[b]?).map (putObj ⟨b, 0, none⟩ lv')) (hl' : w'.ownsRow 0 5 1 lv' L.length (byt L))
    (hnew : ∀ i, lv'.ownBlock = some i → w.heap.size ≤ i ∨ (F i ∧ ¬ V i)) (hL : L.length ≤ 1048576) : Rd V (fun i => i = b ∨ lv'.ownBlock = some i) w' b { s with log := L } := by
  obtain ⟨lv, v0, v1, hh, hl, h0, h1, q, qa, ol, oo, fb, vb, ov, of⟩ := h
  have hbl := lt_of_blk hh
  have offs : ∀ {v : Value} {K : List UInt8}, Bytes w v K → Off F v → Off (fun i => i = b ∨ lv'.ownBlock = some i) v := by
    intro v K hK ho a n c he hn hv
    rcases hv with hv | hv
    · exact ho _ _ _ he hn (by rw [hv]; exact fb)
    · rcases hnew _ hv with h | h
      · subst he
        obtain ⟨ao, cap, e, _, _, _, h4⟩ := hK
        injection e with e1 e2 e3
        subst e1; subst e2; subst e3
        obtain ⟨g, off, e4, hg, _⟩ := h4 hn
        injection e4 with e4
        subst e4
        have := hg (by decide)
        simp at h
        omega
      · exact ho _ _ _ he hn h.1
  refine ⟨lv', v0, v1, by rw [hb', hh]; rfl, hl', h0.keepOff oo.2.2.1 f, h1.keepOff oo.2.2.2 f, ⟨hL, q.2⟩, qa, fun i hi => ⟨.inr hi, fun hv => ?_⟩, ⟨oo.1, oo.2.1, offs h0 oo.2.2.1, offs h1 oo.2.2.2⟩, .inl rfl, vb, fun i hi => Nat.lt_of_lt_of_le (ov i hi) f.size, fun i hi => ?_⟩
  · rcases hnew i hi with h | h
    · have := ov i hv; omega
    · exact h.2 hv
  · rcases hi with rfl | hi
    · exact Nat.lt_of_lt_of_le hbl f.size
    · exact (ownsRow_block hl' i hi).2
theorem Rd.fsub {w : World} {b : Nat} {s : DSt} (h : Rd V F w b s) {lv' : Value} (hnew : ∀ i, lv'.ownBlock = some i → w.heap.size ≤ i ∨ (F i ∧ ¬ V i)) : ∀ i, (i = b ∨ lv'.ownBlock = some i) → F i ∨ w.heap.size ≤ i := by
  rintro i (rfl | hi)
  · exact .inl h.fb
  · rcases hnew i hi with h | h
    · exact .inr h
    · exact .inl h.1

theorem Rd.reslot {w w' : World} {b : Nat} {s : DSt} (h : Rd V F w b s) (f : Fr (one b) w w') {v' : Value} {L : List UInt8} (k : Nat) (hk : k < 2) (hb' : w'.heap[b]? = (w.heap[b]?).map (putObj ⟨b, 1 + k, none⟩ v')) (hv : Bytes w' v' L)
    (hnew : ∀ i, v'.ownBlock = some i → w.heap.size ≤ i) (hL : L.length ≤ 65536) : Rd V F w' b (s.slot k L) := by
  have nb := h.noByte
  obtain ⟨lv, v0, v1, hh, hl, h0, h1, q, qa, ol, oo, fb, vb, ov, of⟩ := h
  have oV : Off V v' := fun a n c he _ hv => by have := hnew a.block (by rw [he]; rfl); have := ov _ hv; omega
  have oF : Off F v' := fun a n c he _ hv => by have := hnew a.block (by rw [he]; rfl); have := of _ hv; omega
  have kl := ownsRow_keep hl f (Rd.row_ne hh (by decide) hl)
  have k0 := h0.keep f (fun b hb hS => (nb b hb hS).1)
  have k1 := h1.keep f (fun b hb hS => (nb b hb hS).1)
  have kv : ∀ i, V i → i < w'.heap.size := fun i hi => Nat.lt_of_lt_of_le (ov i hi) f.size
  have kf : ∀ i, F i → i < w'.heap.size := fun i hi => Nat.lt_of_lt_of_le (of i hi) f.size
  obtain rfl | rfl : k = 0 ∨ k = 1 := by omega
  · exact ⟨lv, v', v1, by rw [hb', hh]; rfl, kl, hv, k1, ⟨q.1, hL, q.2.2⟩, qa, ol, ⟨oV, oo.2.1, oF, oo.2.2.2⟩, fb, vb, kv, kf⟩
  · exact ⟨lv, v0, v', by rw [hb', hh]; rfl, kl, k0, hv, ⟨q.1, q.2.1, hL⟩, qa, ol, ⟨oo.1, oV, oo.2.2.1, oF⟩, fb, vb, kv, kf⟩

/-- What a method of it leaves. -/
def RPost (V F : Nat → Prop) (w : World) (b : Nat) (p : DSt × Int) (e : Ending) (w' : World) : Prop :=
  e = .returned (.int .i64 p.2) ∧ ∃ F', (∀ i, F' i → F i ∨ w.heap.size ≤ i) ∧ Rd V F' w' b p.1 ∧ Fr F w w'
theorem RPost.same {w : World} {b : Nat} {s : DSt} (h : Rd V F w b s) (x : Int) : RPost V F w b (s, x) (.returned (.int .i64 x)) w := ⟨rfl, F, fun _ h => .inl h, h, Fr.refl _ _⟩
theorem RPost.one {w w' : World} {b : Nat} {s s' : DSt} {x : Int} (h0 : Rd V F w b s) (h : Rd V F w' b s') (f : Fr (one b) w w') : RPost V F w b (s', x) (.returned (.int .i64 x)) w' := ⟨rfl, F, fun _ h => .inl h, h, f.mono (fun i _ e => by cases e; exact h0.fb)⟩

theorem Rd.end0 {w w1 : World} {b : Nat} {s : DSt} (h : Rd V F w b s) (f1 : Fr none' w w1) {v : Value} {L : List UInt8} (ho : w1.ownsRow w.heap.size 5 1 v L.length (byt L)) (hL : L.length ≤ 1048576) (x : Int) :
    RPost V F w b ({ s with log := L }, x) (.returned (.int .i64 x)) (w1.setCell ⟨b, 0, none⟩ v) := by
  have hb := h.lt
  have hlo := ownsRow_block ho
  have f2 : Fr (one b) w (w1.setCell ⟨b, 0, none⟩ v) := (f1.mono (fun _ _ h => h.elim)).set1 _
  have f2F : Fr F w (w1.setCell ⟨b, 0, none⟩ v) := f2.mono (fun i _ e => by cases e; exact h.fb)
  have hnew : ∀ i, v.ownBlock = some i → w.heap.size ≤ i ∨ (F i ∧ ¬ V i) := fun i hi => .inl (hlo i hi).1
  refine ⟨rfl, _, h.fsub hnew, h.relog f2F ?_ ?_ hnew hL, f2F⟩
  · rw [blk_set_same rfl, f1.block b hb id]
  · exact ownsRow_base (ownsRow_keep ho ((Fr.refl (one b) w1).set1 _) (fun i hi e => by cases e; have := (hlo _ hi).1; omega)) (Nat.zero_le _)

theorem rtrim_any (b : Nat) (n : Int) (s : DSt) (w : World) (h : Rd V F w b s) :
    Calls Try.prog 29 #[.pointer (some ⟨b, 0, none⟩), .int .i64 n] w fun e w' => RPost V F w b (s.trim n) e w' := by
  have hD := Lib.hid h
  obtain ⟨lv, v0, v1, hh, hl, _, _, ⟨q, _, _⟩, _⟩ := h
  have hb : Bytes w lv s.log := Sl.of_own hl
  obtain ⟨lo, lc, rfl⟩ := hb.cells
  have c0 := cell_of_blk (o := 0) hh rfl
  have z0 := free_of_blk (o := 0) hh
  have hbw := lt_of_blk hh
  have hhh := Lib.hid hh
  clear hh hl
  by_cases hok : s.askedN n = 0
  · have hd : s.dead = false := by
      unfold DSt.askedN at hok
      cases hd : s.dead
      · rfl
      · rw [if_pos hd] at hok; cases hok
    have hn : 0 ≤ n ∧ n ≤ s.log.length := by
      unfold DSt.askedN at hok
      rw [if_neg (by simp [hd])] at hok
      by_cases h : n < 0 ∨ (s.log.length : Int) < n
      · rw [if_pos h] at hok; cases hok
      · omega
    have e1 : s.trim n = ({ s with log := s.log.drop n.toNat }, 0) := by unfold DSt.trim; rw [if_neg (by simp [hd]), if_neg (by omega)]
    rw [e1]
    obtain ⟨n0, n1⟩ := hn
    have hel : Try.prog.elem 27 = 5 := by kernel_rfl
    have hsz : ∀ w, (sizeOf (Try.prog.elem 27)).run Try.prog w = .ok 1 w := fun w => by
      obtain ⟨i0, hi, _, hz1, _⟩ := info_parts Try.info5
      simp [hel, sizeOf, typeInfo, hi, hz1]
    obtain ⟨aA, kA, hrA, hbA⟩ := slice_l_ex 27 (by rw [hel]; exact Try.underlying27) hsz lo s.log.length lc s.log w hb n n0 n1
    have hbA' := Lib.hid (hbA w hb)
    have ha := Lib.hid (rasked_any b n s w hD.out)
    rw [hok] at ha
    clear e1 hd hok hel hsz hbA hb n0 n1
    go_enter Try.func29, Try.ntmps29
    go_wp2_with fail
    refine ha.out.mono ?_
    rintro e w' ⟨rfl, rfl⟩
    clear ha
    go_wp2_with fail
    refine (copyBytes_any _ _ _ hbA'.out (by simp; omega)).mono ?_
    rintro e w1 ⟨v', rfl, ho, f1, -⟩
    have hh1 := f1.blk hhh.out id
    have c0' := cell_of_blk (o := 0) hh1 rfl
    have z0' := free_of_blk (o := 0) hh1
    obtain ⟨a1, k1, rfl⟩ := Bytes.cells (w := w1) (Sl.of_own ho)
    have ho' := Lib.hid ho
    clear ho hh1 c0 z0
    go_wp2_with fail
    go_ret
    have := hD.out.end0 f1 ho'.out (by simp; omega) 0
    simpa using this
  · have hx : (s.askedN n != 0) = true := by simpa using hok
    have e1 : s.trim n = (s, s.askedN n) := by
      unfold DSt.trim DSt.askedN
      unfold DSt.askedN at hok
      split
      · rfl
      · rename_i hd
        rw [if_neg hd] at hok
        split
        · rfl
        · rename_i hn
          rw [if_neg hn] at hok
          exact absurd rfl hok
    rw [e1]
    clear e1 hok
    go_enter Try.func29, Try.ntmps29
    go_wp2_with fail
    refine (rasked_any b n s w hD.out).mono ?_
    rintro e w' ⟨rfl, rfl⟩
    go_wp2_with fail
    go_ret
    exact RPost.same hD.out _

theorem rcut_any (b : Nat) (n : Int) (s : DSt) (w : World) (h : Rd V F w b s) :
    Calls Try.prog 30 #[.pointer (some ⟨b, 0, none⟩), .int .i64 n] w fun e w' => RPost V F w b (s.cut n) e w' := by
  have hD := Lib.hid h
  obtain ⟨lv, v0, v1, hh, hl, _, _, ⟨q, _, _⟩, _⟩ := h
  have hb : Bytes w lv s.log := Sl.of_own hl
  obtain ⟨lo, lc, rfl⟩ := hb.cells
  have c0 := cell_of_blk (o := 0) hh rfl
  have z0 := free_of_blk (o := 0) hh
  have hbw := lt_of_blk hh
  have hhh := Lib.hid hh
  clear hh hl
  by_cases hok : s.askedN n = 0
  · have hd : s.dead = false := by
      unfold DSt.askedN at hok
      cases hd : s.dead
      · rfl
      · rw [if_pos hd] at hok; cases hok
    have hn : 0 ≤ n ∧ n ≤ s.log.length := by
      unfold DSt.askedN at hok
      rw [if_neg (by simp [hd])] at hok
      by_cases h : n < 0 ∨ (s.log.length : Int) < n
      · rw [if_pos h] at hok; cases hok
      · omega
    have e1 : s.cut n = ({ s with log := s.log.take n.toNat }, 0) := by unfold DSt.cut; rw [if_neg (by simp [hd]), if_neg (by omega)]
    rw [e1]
    obtain ⟨n0, n1⟩ := hn
    obtain ⟨m, rfl⟩ := Int.eq_ofNat_of_zero_le n0
    have hbc := hb.facts.2.1
    have hm : m ≤ s.log.length := by omega
    have hbA' := Lib.hid (hb.take rfl m hm)
    simp only [Int.toNat_natCast]
    have ha := Lib.hid (rasked_any b (m : Int) s w hD.out)
    rw [hok] at ha
    clear e1 hd hok hb n1
    go_enter Try.func30, Try.ntmps30
    go_wp2_with fail
    refine ha.out.mono ?_
    rintro e w' ⟨rfl, rfl⟩
    clear ha
    go_wp2_with fail
    refine (copyBytes_any _ _ _ hbA'.out (by simp; omega)).mono ?_
    rintro e w1 ⟨v', rfl, ho, f1, -⟩
    have hh1 := f1.blk hhh.out id
    have c0' := cell_of_blk (o := 0) hh1 rfl
    have z0' := free_of_blk (o := 0) hh1
    obtain ⟨a1, k1, rfl⟩ := Bytes.cells (w := w1) (Sl.of_own ho)
    have ho' := Lib.hid ho
    clear ho hh1 c0 z0
    go_wp2_with fail
    go_ret
    have := hD.out.end0 f1 ho'.out (by simp; omega) 0
    simpa [Nat.min_eq_left hm] using this
  · have hx : (s.askedN n != 0) = true := by simpa using hok
    have e1 : s.cut n = (s, s.askedN n) := by
      unfold DSt.cut DSt.askedN
      unfold DSt.askedN at hok
      split
      · rfl
      · rename_i hd
        rw [if_neg hd] at hok
        split
        · rfl
        · rename_i hn
          rw [if_neg hn] at hok
          exact absurd rfl hok
    rw [e1]
    clear e1 hok
    go_enter Try.func30, Try.ntmps30
    go_wp2_with fail
    refine (rasked_any b n s w hD.out).mono ?_
    rintro e w' ⟨rfl, rfl⟩
    go_wp2_with fail
    go_ret
    exact RPost.same hD.out _

theorem append_end {w w1 w2 : World} {b : Nat} {s : DSt} {B : List UInt8} {lv nv v0 v1 x0 x1 : Value} (h : Rd V F w b s) (f1 : Fr (one b) w w1) (h1 : Rd V F w1 b { s with dead := s.arm.isSome }) (hh1 : w1.heap[b]? = some (.cells #[lv, v0, v1, x0, x1] 56 (0, 0)))
    {y0 : Value} (hh : w.heap[b]? = some (.cells #[lv, v0, v1, y0, x1] 56 (0, 0))) (f2 : Fr (fun i => lv.ownBlock = some i) w1 w2) (hh2 : w2.heap[b]? = some (.cells #[lv, v0, v1, x0, x1] 56 (0, 0)))
    (o2 : w2.ownsRow 0 5 1 nv (s.log.length + (s.laid B).length) (byt s.log ++ byt (s.laid B))) (e2 : nv.ownBlock = lv.ownBlock ∨ nv.ownBlock = some w1.heap.size) (ol : ∀ i, lv.ownBlock = some i → F i ∧ ¬ V i) (hNb : ¬ lv.ownBlock = some b) (hL : s.log.length + (s.laid B).length ≤ 1048576) :
    ∃ F', (∀ i, F' i → F i ∨ w.heap.size ≤ i) ∧ Rd V F' (w2.setCell ⟨b, 0, none⟩ nv) b { s with log := s.log ++ s.laid B, dead := s.arm.isSome } ∧ Fr F w (w2.setCell ⟨b, 0, none⟩ nv) := by
  have hb := h.lt
  have hb1 := h1.lt
  have hnew : ∀ i, nv.ownBlock = some i → w1.heap.size ≤ i ∨ (F i ∧ ¬ V i) := fun i hi => by
    rcases e2 with e | e
    · exact .inr (ol i (e ▸ hi))
    · rw [e] at hi; cases hi; exact .inl (Nat.le_refl _)
  have hne : ∀ i, nv.ownBlock = some i → ¬ one b i := fun i hi e => by
    cases e
    rcases e2 with e | e
    · exact hNb (e ▸ hi)
    · rw [e] at hi; cases hi; omega
  have f3 : Fr F w1 (w2.setCell ⟨b, 0, none⟩ nv) := (f2.mono (fun i _ e => (ol i e).1)).setCell _ _ (.inr h.fb)
  refine ⟨_, fun i hi => ?_, Rd.relog h1 f3 (lv' := nv) (L := s.log ++ s.laid B) ?_ ?_ hnew (by simpa using hL), (f1.mono (fun i _ e => by cases e; exact h.fb)).trans f3 (fun _ _ h => h)⟩
  · rcases h1.fsub hnew i hi with h | h
    · exact .inl h
    · have := f1.size; exact .inr (by omega)
  · rw [blk_set_same rfl, hh2, hh1]
  · have e : byt (s.log ++ s.laid B) = byt s.log ++ byt (s.laid B) := by simp [byt]
    rw [e, List.length_append]
    exact ownsRow_keep o2 ((Fr.refl (one b) w2).set1 _) hne

set_option maxHeartbeats 800000 in
theorem rappend_any (b : Nat) (s : DSt) (bv : Value) (B : List UInt8) (w : World) (h : Rd V F w b s) (hb : Bytes w bv B) (hB : B.length ≤ 140737488355328) :
    Calls Try.prog 33 #[.pointer (some ⟨b, 0, none⟩), bv] w fun e w' => RPost V F w b (s.append B) e w' := by
  obtain ⟨i0, hi, hz0, hz1, hz2⟩ := info_parts Try.info5
  have hD := Lib.hid h
  obtain ⟨lv, v0, v1, hh, hl, _, _, ⟨q, _, _⟩, _, ol, _⟩ := h
  have hbl : Bytes w lv s.log := Sl.of_own hl
  obtain ⟨lo, lc, rfl⟩ := hbl.cells
  obtain ⟨bo, bc, rfl⟩ := hb.cells
  have c0 := cell_of_blk (o := 0) hh rfl
  have z0 := free_of_blk (o := 0) hh
  have c3 := cell_of_blk (o := 3) hh rfl
  have hbw := lt_of_blk hh
  have hl' := Lib.hid hl
  have hhh := Lib.hid hh
  have ol' := Lib.hid ol
  clear hh hl ol
  cases hd : s.dead
  · rw [hd] at c3
    by_cases hs : 1048576 < s.log.length + B.length
    · have e1 : s.append B = (s, 5) := by unfold DSt.append; rw [if_neg (by simp [hd]), if_pos hs]
      rw [e1]
      have hw : IntKind.i64.wrap ((s.log.length : Int) + (B.length : Int)) = (s.log.length : Int) + B.length := by rw [IntKind.wrap_i64]; omega
      clear e1 hd
      go_enter Try.func33, Try.ntmps33
      go_wp2_with fail
      go_ret
      exact RPost.same hD.out _
    · have e1 : s.append B = ({ s with log := s.log ++ s.laid B, dead := s.arm.isSome }, deadNo s.arm.isSome) := by unfold DSt.append; rw [if_neg (by simp [hd]), if_neg hs]
      rw [e1]
      have hw : IntKind.i64.wrap ((s.log.length : Int) + (B.length : Int)) = (s.log.length : Int) + B.length := by rw [IntKind.wrap_i64]; omega
      have hlay := laid_length s B
      have hL := Lib.hid (rlays_any b s _ B w.drew (hD.out.keep0 (Fr.refl _ _).drew) (hb.keep0 (Fr.refl _ _).drew) (by omega) hd)
      have hnb := Lib.hid hD.out.noByte
      have hO : Hid (∀ w1, Fr (one b) w.drew w1 → w1.ownsRow 0 5 1 (.slice lo s.log.length lc) s.log.length (byt s.log)) := Lib.hid (fun w1 f1 => ownsRow_keep hl'.out f1.ofDrew (Rd.row_ne hhh.out (by decide) hl'.out))
      have hNb : Hid (¬ (Value.slice lo s.log.length lc).ownBlock = some b) := Lib.hid (fun e => Rd.row_ne hhh.out (by decide) hl'.out b e rfl)
      have hC : Hid (∀ w1 : World, w1.heap[b]? = (w.drew.heap[b]?).map (putObj ⟨b, 3, none⟩ (.bool s.arm.isSome)) → w1.heap[b]? = some (.cells #[.slice lo s.log.length lc, v0, v1, .bool s.arm.isSome, .int .i64 (armNo s.arm)] 56 (0, 0))) := Lib.hid (fun w1 e => by rw [e]; show ((w.heap[b]?).map _) = _; rw [hhh.out]; rfl)
      clear e1 hd
      go_enter Try.func33, Try.ntmps33
      go_upto_region 5 with fail
      go_region_law
        (first
          | (go_simp; go_at_call 44; refine (hL.out).mono ?_; rintro e w1 ⟨v', rfl, ho, hd1, hb1, f1⟩; have hh1 := hC.out _ hb1; have c0' : w1.cell? ⟨b, 0, none⟩ = some (.slice lo s.log.length lc) := cell_of_blk (o := 0) hh1 rfl; have z0' : w1.frozen? ⟨b, 0, none⟩ = false := free_of_blk hh1; have hsz : w.heap.size ≤ w1.heap.size := f1.size; have hown := hO.out _ f1; obtain ⟨vo, vc, rfl⟩ := Bytes.cells (w := w1) (L := s.laid B) (Sl.of_own ho); have hlaid : Sl w1 (.slice vo (s.laid B).length vc) 1 (s.laid B).length (byt (s.laid B)) := Sl.of_own ho; have hd2 := Lib.hid hd1; have ho2 := Lib.hid ho; have hh2 := Lib.hid hh1; clear hd1 ho hb1 hh1)
          | (refine step_app_own_sl rfl (.tmp 22) (.tmp 25) 27 rfl 0 5 i0 (.int .u8 0) 1 1 Try.underlying27 hi hz0 hz1 hz2 rfl (by decide) (.slice lo s.log.length lc) s.log.length (byt s.log) rfl hown (.slice vo (s.laid B).length vc) (s.laid B).length (byt (s.laid B)) rfl hlaid (byt_one _) (by omega) (by omega) (Nat.zero_le _) ?_; intro v2 w2 o2 g2 e2; have f2 : Fr (fun i => (Value.slice lo s.log.length lc).ownBlock = some i) w1 w2 := (Fr.refl _ _).grown g2 (fun k hk => .inr hk); have hh3 := f2.blk hh2.out hNb.out; have c0'' : w2.cell? ⟨b, 0, none⟩ = some (.slice lo s.log.length lc) := cell_of_blk (o := 0) hh3 rfl; have z0'' : w2.frozen? ⟨b, 0, none⟩ = false := free_of_blk hh3; have hh4 := Lib.hid hh3; clear hh3; have o2h := Lib.hid o2; obtain ⟨a2, k2, rfl⟩ := Sl.cells1 (Sl.of_own o2); have g2h := Lib.hid e2; clear e2 o2))
      all_goals
        have hfin := append_end hD.out f1.ofDrew hd2.out hh2.out hhh.out f2 hh4.out o2h.out g2h.out (fun i hi => ol'.out i hi) hNb.out (by omega)
        obtain ⟨w3, hw3⟩ : ∃ w3, w3 = w2.setCell ⟨b, 0, none⟩ (.slice a2 (s.log.length + (s.laid B).length) k2) := ⟨_, rfl⟩
        rw [← hw3] at hfin ⊢
        obtain ⟨F', k1, k2', k3⟩ := hfin
        clear hw3 c0 z0 c3 c0' z0' c0'' z0''
        go_wp2_with fail
        refine (rends_any _ _ _ k2').mono ?_
        rintro e w' ⟨rfl, rfl⟩
        go_wp2_with fail
        go_ret
        exact ⟨rfl, F', k1, k2', k3⟩
  · rw [hd] at c3
    have e1 : s.append B = (s, 130) := by unfold DSt.append; rw [if_pos hd]
    rw [e1]
    clear e1 hd
    go_enter Try.func33, Try.ntmps33
    go_wp2_with fail
    go_ret
    exact RPost.same hD.out _

theorem slot_end {w w1 : World} {b k : Nat} {s : DSt} {B : List UInt8} {nv : Value} (h : Rd V F w b s) (f1 : Fr (one b) w w1) (h1 : Rd V F w1 b { s with dead := s.arm.isSome }) (ho : w1.ownsRow w.heap.size 5 1 nv (s.laid B).length (byt (s.laid B))) (hk : k < 2) (hL : (s.laid B).length ≤ 65536) :
    ∃ F', (∀ i, F' i → F i ∨ w.heap.size ≤ i) ∧ Rd V F' (w1.setCell ⟨b, 1 + k, none⟩ nv) b { s.slot k (s.laid B) with dead := s.arm.isSome } ∧ Fr F w (w1.setCell ⟨b, 1 + k, none⟩ nv) := by
  have hb := h.lt
  have f3 : Fr (one b) w1 (w1.setCell ⟨b, 1 + k, none⟩ nv) := (Fr.refl _ _).set1 _
  have hlo := ownsRow_block ho
  have hv : Bytes w1 nv (s.laid B) := Sl.of_own ho
  have key : Rd V F (w1.setCell ⟨b, 1 + k, none⟩ nv) b ({ s with dead := s.arm.isSome }.slot k (s.laid B)) := by
    have nb := h1.noByte
    obtain ⟨lv, v0, v1, hh, hl, h0, h1', q, qa, ol, oo, fb, vb, ov, of⟩ := h1
    have oV : Off V nv := fun a n c he _ hv => by have := (hlo a.block (by rw [he]; rfl)).1; have := h.old.1 _ hv; omega
    have oF : Off F nv := fun a n c he _ hv => by have := (hlo a.block (by rw [he]; rfl)).1; have := h.old.2 _ hv; omega
    have kl := ownsRow_keep hl f3 (Rd.row_ne hh (by decide) hl)
    have k0 := h0.keep f3 (fun b hb hS => (nb b hb hS).1)
    have k1 := h1'.keep f3 (fun b hb hS => (nb b hb hS).1)
    have kn := hv.keep f3 (fun b hb hS => (nb b hb hS).1)
    have kv : ∀ i, V i → i < (w1.setCell ⟨b, 1 + k, none⟩ nv).heap.size := fun i hi => Nat.lt_of_lt_of_le (ov i hi) f3.size
    have kf : ∀ i, F i → i < (w1.setCell ⟨b, 1 + k, none⟩ nv).heap.size := fun i hi => Nat.lt_of_lt_of_le (of i hi) f3.size
    obtain rfl | rfl : k = 0 ∨ k = 1 := by omega
    · exact ⟨lv, nv, v1, by rw [blk_set_at hh rfl]; rfl, kl, kn, k1, ⟨q.1, hL, q.2.2⟩, qa, ol, ⟨oV, oo.2.1, oF, oo.2.2.2⟩, fb, vb, kv, kf⟩
    · exact ⟨lv, v0, nv, by rw [blk_set_at hh rfl]; rfl, kl, k0, kn, ⟨q.1, q.2.1, hL⟩, qa, ol, ⟨oo.1, oV, oo.2.2.1, oF⟩, fb, vb, kv, kf⟩
  refine ⟨F, fun _ h => .inl h, ?_, (f1.trans f3 (fun _ _ h => h)).mono (fun i _ e => by cases e; exact h.fb)⟩
  obtain rfl | rfl : k = 0 ∨ k = 1 := by omega
  · exact key
  · exact key

set_option maxHeartbeats 800000 in
theorem rslot_any (b : Nat) (k : Int) (s : DSt) (bv : Value) (B : List UInt8) (w : World) (h : Rd V F w b s) (hb : Bytes w bv B) (hB : B.length ≤ 140737488355328) :
    Calls Try.prog 27 #[.pointer (some ⟨b, 0, none⟩), .int .i64 k, bv] w fun e w' => RPost V F w b (s.slots k B) e w' := by
  have hD := Lib.hid h
  obtain ⟨lv, v0, v1, hh, hl, _, _, ⟨q, _, _⟩, _, ol, _⟩ := h
  obtain ⟨bo, bc, rfl⟩ := hb.cells
  have c3 := cell_of_blk (o := 3) hh rfl
  have hhh := Lib.hid hh
  clear hh hl ol
  cases hd : s.dead
  · rw [hd] at c3
    by_cases hk : k ≠ 0 ∧ k ≠ 1
    · have e1 : s.slots k B = (s, 9) := by unfold DSt.slots; rw [if_neg (by simp [hd]), if_pos hk]
      rw [e1]
      have k0 : (k != 0) = true := by simpa using hk.1
      have k1 : (k != 1) = true := by simpa using hk.2
      clear e1 hd hk
      go_enter Try.func27, Try.ntmps27
      go_wp2_with fail
      go_ret
      exact RPost.same hD.out _
    have hk01 : k = 0 ∨ k = 1 := by omega
    by_cases hs : 65536 < B.length
    · have e1 : s.slots k B = (s, 5) := by unfold DSt.slots; rw [if_neg (by simp [hd]), if_neg hk, if_pos hs]
      rw [e1]
      clear e1 hd hk
      rcases hk01 with rfl | rfl
      all_goals
        go_enter Try.func27, Try.ntmps27
        go_wp2_with fail
        go_ret
        exact RPost.same hD.out _
    · have e1 : s.slots k B = ({ s.slot k.toNat (s.laid B) with dead := s.arm.isSome }, deadNo s.arm.isSome) := by unfold DSt.slots; rw [if_neg (by simp [hd]), if_neg hk, if_neg hs]
      rw [e1]
      have hlay := laid_length s B
      have hL := Lib.hid (rlays_any b s _ B w.drew (hD.out.keep0 (Fr.refl _ _).drew) (hb.keep0 (Fr.refl _ _).drew) (by omega) hd)
      have hC : Hid (∀ w1 : World, w1.heap[b]? = (w.drew.heap[b]?).map (putObj ⟨b, 3, none⟩ (.bool s.arm.isSome)) → w1.heap[b]? = some (.cells #[lv, v0, v1, .bool s.arm.isSome, .int .i64 (armNo s.arm)] 56 (0, 0))) := Lib.hid (fun w1 e => by rw [e]; show ((w.heap[b]?).map _) = _; rw [hhh.out]; rfl)
      clear e1 hd hk
      rcases hk01 with rfl | rfl
      · go_enter Try.func27, Try.ntmps27
        go_upto_region 7 with fail
        go_region_law
          (first
            | (go_simp; go_at_call 44; refine (hL.out).mono ?_; rintro e w1 ⟨v', rfl, ho, hd1, hb1, f1⟩; have hh1 := hC.out _ hb1; have c1' : w1.cell? ⟨b, 1, none⟩ = some v0 := cell_of_blk (o := 1) hh1 rfl; have z1' : w1.frozen? ⟨b, 1, none⟩ = false := free_of_blk hh1; obtain ⟨vo, vc, rfl⟩ := Sl.cells1 (Sl.of_own ho); have hd2 := Lib.hid hd1; have ho2 := Lib.hid ho; have hh2 := Lib.hid hh1; clear hd1 ho hb1 hh1))
        all_goals
          have hfin := slot_end (k := 0) hD.out f1.ofDrew hd2.out ho2.out (by omega) (by omega)
          obtain ⟨w3, hw3⟩ : ∃ w3, w3 = w1.setCell ⟨b, 1 + 0, none⟩ (.slice vo (s.laid B).length vc) := ⟨_, rfl⟩
          rw [← hw3] at hfin
          have hw3' : w1.setCell ⟨b, 1, none⟩ (.slice vo (s.laid B).length vc) = w3 := hw3.symm
          rw [hw3']
          obtain ⟨F', k1, k2', k3⟩ := hfin
          clear hw3 hw3' c3 c1' z1'
          go_wp2_with fail
          refine (rends_any _ _ _ k2').mono ?_
          rintro e w' ⟨rfl, rfl⟩
          go_wp2_with fail
          go_ret
          exact ⟨rfl, F', k1, k2', k3⟩
      · go_enter Try.func27, Try.ntmps27
        go_upto_region 7 with fail
        go_region_law
          (first
            | (go_simp; go_at_call 44; refine (hL.out).mono ?_; rintro e w1 ⟨v', rfl, ho, hd1, hb1, f1⟩; have hh1 := hC.out _ hb1; have c1' : w1.cell? ⟨b, 2, none⟩ = some v1 := cell_of_blk (o := 2) hh1 rfl; have z1' : w1.frozen? ⟨b, 2, none⟩ = false := free_of_blk hh1; obtain ⟨vo, vc, rfl⟩ := Sl.cells1 (Sl.of_own ho); have hd2 := Lib.hid hd1; have ho2 := Lib.hid ho; have hh2 := Lib.hid hh1; clear hd1 ho hb1 hh1))
        all_goals
          have hfin := slot_end (k := 1) hD.out f1.ofDrew hd2.out ho2.out (by omega) (by omega)
          obtain ⟨w3, hw3⟩ : ∃ w3, w3 = w1.setCell ⟨b, 1 + 1, none⟩ (.slice vo (s.laid B).length vc) := ⟨_, rfl⟩
          rw [← hw3] at hfin
          have hw3' : w1.setCell ⟨b, 1 + 1, none⟩ (.slice vo (s.laid B).length vc) = w3 := hw3.symm
          rw [hw3']
          obtain ⟨F', k1, k2', k3⟩ := hfin
          clear hw3 hw3' c3 c1' z1'
          go_wp2_with fail
          refine (rends_any _ _ _ k2').mono ?_
          rintro e w' ⟨rfl, rfl⟩
          go_wp2_with fail
          go_ret
          exact ⟨rfl, F', k1, k2', k3⟩
  · rw [hd] at c3
    have e1 : s.slots k B = (s, 130) := by unfold DSt.slots; rw [if_pos hd]
    rw [e1]
    clear e1 hd
    go_enter Try.func27, Try.ntmps27
    go_wp2_with fail
    go_ret
    exact RPost.same hD.out _

end Go.Proofs.Ytnflppgmccddoaa
