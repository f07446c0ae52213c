/-
  The disk, function by function (gimbal/disk).
-/
import Derived.Test.YtnflppgmccddoaaA
import Derived.Deep.RegionHeld3
namespace Go.Proofs.Ytnflppgmccddoaa
set_option linter.unusedVariables false
open Go.RowKit
variable {V : Nat → Prop}

/-- How a disk stands. -/
structure DSt where
  log : List UInt8
  s0 : List UInt8
  s1 : List UInt8
  dead : Bool
  arm : Option Int

/-- What of a write is written. -/
def DSt.laid (s : DSt) (b : List UInt8) : List UInt8 := match s.arm with | none => b | some c => b.take c.toNat

/-- The function in a disk's last field. -/
def LaysAt (w : World) (fv : Value) : Option Int → Prop
  | none => fv = .func (.func 26) #[] #[]
  | some c => 0 ≤ c ∧ c ≤ 9223372036854775807 ∧ ∃ cb, fv = .func (.func 43) #[] #[.pointer (some ⟨cb, 0, none⟩)] ∧ w.heap[cb]? = some (.cells #[.int .i64 c] 3 (0, 0))

/-- A slice that lies in no block of V. -/
def Off (V : Nat → Prop) (v : Value) : Prop := ∀ a n c, v = .slice (some a) n c → 0 < n → ¬ V a.block
theorem off_none (v : Value) : Off none' v := fun _ _ _ _ _ h => h
theorem Off.nil (c : Nat) : Off V (.slice Option.none 0 c) := fun _ _ _ h => by cases h
theorem Off.own {w : World} {base e k n : Nat} {v : Value} {cs : List Value} (h : w.ownsRow base e k v n cs) (hV : ∀ i, V i → i < base) : Off V v := fun a n c he _ hv => by
  subst he
  have := (ownsRow_block h a.block rfl).1
  have := hV _ hv
  omega
/-- What a function has captured lies in no block of V. -/
def OffF (V : Nat → Prop) (fv : Value) : Prop := ∀ cb, fv = .func (.func 43) #[] #[.pointer (some ⟨cb, 0, none⟩)] → ¬ V cb

/-- A disk at block b; no block of V is its own. -/
def Dk (V : Nat → Prop) (w : World) (b : Nat) (s : DSt) : Prop :=
  ∃ lv v0 v1 fv, w.heap[b]? = some (.cells #[lv, v0, v1, .bool s.dead, fv] 53 (0, 0)) ∧ Bytes w lv s.log ∧ Bytes w v0 s.s0 ∧ Bytes w v1 s.s1 ∧ LaysAt w fv s.arm ∧ s.log.length ≤ 1048576 ∧ s.s0.length ≤ 65536 ∧ s.s1.length ≤ 65536 ∧
    Off V lv ∧ Off V v0 ∧ Off V v1 ∧ OffF V fv ∧ ∀ i, V i → i < w.heap.size ∧ i ≠ b

theorem LaysAt.keep {w w' : World} {fv : Value} {c : Option Int} {S : Nat → Prop} (h : LaysAt w fv c) (f : Fr S w w') (hs : ∀ b, b < w.heap.size → S b → ∀ c, w.heap[b]? ≠ some (.cells #[.int .i64 c] 3 (0, 0))) : LaysAt w' fv c := by
  cases c with
  | none => exact h
  | some c =>
    obtain ⟨h0, h1, cb, h2, h3⟩ := h
    exact ⟨h0, h1, cb, h2, f.blk h3 (fun e => hs cb (lt_of_blk h3) e _ h3)⟩

/-- Blocks whose cells are no bytes, and that are no captured number. -/
def NoByte (w : World) (S : Nat → Prop) : Prop := ∀ b, b < w.heap.size → S b → (∀ o x, w.cell? ⟨b, o, none⟩ ≠ some (.int .u8 x)) ∧ ∀ c, w.heap[b]? ≠ some (.cells #[.int .i64 c] 3 (0, 0))

theorem noByte_none (w : World) : NoByte w none' := fun _ _ h => h.elim

theorem Dk.noByte {w : World} {b : Nat} {s : DSt} (h : Dk V w b s) : NoByte w (one b) := by
  obtain ⟨lv, v0, v1, fv, hb, hl, h0, h1, hf, _⟩ := h
  rintro b' hb' rfl
  have nb : ∀ {v : Value} {L : List UInt8}, Bytes w v L → ∀ x, v ≠ .int .u8 x := by
    rintro v L ⟨ao, cap, rfl, _⟩ x h; cases h
  refine ⟨fun o x hx => ?_, fun c hc => by rw [hb] at hc; injection hc with hc; injection hc with hc; simp at hc⟩
  simp only [World.cell?, hb, Option.isSome_none, Bool.false_eq_true, if_false] at hx
  match o, hx with
  | 0, hx => exact nb hl x (by simpa using hx)
  | 1, hx => exact nb h0 x (by simpa using hx)
  | 2, hx => exact nb h1 x (by simpa using hx)
  | 3, hx => simp at hx
  | 4, hx =>
    simp at hx
    subst hx
    cases h : s.arm with
    | none => rw [h] at hf; cases hf
    | some c => rw [h] at hf; obtain ⟨_, _, cb, h2, _⟩ := hf; cases h2
  | o + 5, hx => simp at hx

theorem Dk.old {w : World} {b : Nat} {s : DSt} (h : Dk V w b s) : ∀ i, V i → i < w.heap.size := by
  obtain ⟨_, _, _, _, _, _, _, _, _, _, _, _, _, _, _, _, h⟩ := h
  exact fun i hi => (h i hi).1

theorem Dk.apart {w : World} {b : Nat} {s : DSt} (h : Dk V w b s) : ∀ i, V i → i ≠ b := by
  obtain ⟨_, _, _, _, _, _, _, _, _, _, _, _, _, _, _, _, h⟩ := h
  exact fun i hi => (h i hi).2

/-- A block whose cells are slices. -/
theorem noByte_arr {w : World} {g t : Nat} {c : Array Value} {z : Nat × Nat} (h : w.heap[g]? = some (.cells c t z)) (hc : ∀ (o : Nat) (v : Value), c[o]? = some v → ∃ a n m, v = Value.slice a n m) : NoByte w (one g) := by
  rintro b hb rfl
  refine ⟨fun o x hx => ?_, fun y hy => ?_⟩
  · simp only [World.cell?, h, Option.isSome_none, Bool.false_eq_true, if_false] at hx
    obtain ⟨a, n, m, e⟩ := hc o _ hx
    cases e
  · rw [h] at hy
    injection hy with hy
    injection hy with hy
    subst hy
    obtain ⟨a, n, m, e⟩ := hc 0 _ rfl
    cases e

/-- A block whose cells are no numbers. -/
theorem noByte_of {w : World} {g t : Nat} {c : Array Value} {z : Nat × Nat} (h : w.heap[g]? = some (.cells c t z)) (hc : ∀ v ∈ c.toList, ∀ k x, v ≠ .int k x) : NoByte w (one g) := by
  rintro b hb rfl
  refine ⟨fun o x hx => ?_, fun y hy => ?_⟩
  · simp only [World.cell?, h, Option.isSome_none, Bool.false_eq_true, if_false] at hx
    exact hc _ (Array.mem_toList_iff.2 (Array.mem_of_getElem? hx)) _ _ rfl
  · rw [h] at hy
    injection hy with hy
    injection hy with hy
    subst hy
    exact hc (.int .i64 y) (by simp) _ _ rfl
theorem Dk.lt {w : World} {b : Nat} {s : DSt} (h : Dk V w b s) : b < w.heap.size := by
  obtain ⟨_, _, _, _, h, _⟩ := h
  exact lt_of_blk h

/-- What others' blocks turn leaves a disk as it was. -/
theorem Dk.keep {w w' : World} {b : Nat} {s : DSt} {S : Nat → Prop} (h : Dk V w b s) (f : Fr S w w') (hb : ¬ S b) (hs : NoByte w S) : Dk V w' b s := by
  obtain ⟨lv, v0, v1, fv, hh, hl, h0, h1, hf, q0, q1, q2, ol, o0, o1, of, ov⟩ := h
  exact ⟨lv, v0, v1, fv, f.blk hh hb, hl.keep f (fun b hb hS => (hs b hb hS).1), h0.keep f (fun b hb hS => (hs b hb hS).1), h1.keep f (fun b hb hS => (hs b hb hS).1), hf.keep f (fun b hb hS => (hs b hb hS).2), q0, q1, q2, ol, o0, o1, of, fun i hi => ⟨Nat.lt_of_lt_of_le (ov i hi).1 f.size, (ov i hi).2⟩⟩
theorem Dk.keep0 {w w' : World} {b : Nat} {s : DSt} (h : Dk V w b s) (f : Fr none' w w') : Dk V w' b s := h.keep f id (noByte_none w)

theorem Bytes.keepOff {w w' : World} {v : Value} {L : List UInt8} (h : Bytes w v L) (ho : Off V v) (f : Fr V w w') : Bytes w' v L := by
  obtain ⟨ao, cap, rfl, h1, h2, h3, h4⟩ := h
  refine ⟨ao, cap, rfl, h1, h2, h3, fun hn => ?_⟩
  obtain ⟨g, off, rfl, hg, hc⟩ := h4 hn
  refine ⟨g, off, rfl, fun hk => Nat.lt_of_lt_of_le (hg hk) f.size, fun j u hj => ?_⟩
  rw [f.cell (p := ⟨g, off + j, none⟩) (hg (by decide)) (ho ⟨g, off, Option.none⟩ _ _ rfl hn)]
  exact hc j u hj

/-- Turning what lies in V leaves a disk as it was. -/
theorem Dk.keepV {w w' : World} {b : Nat} {s : DSt} (h : Dk V w b s) (f : Fr V w w') : Dk V w' b s := by
  obtain ⟨lv, v0, v1, fv, hh, hl, h0, h1, hf, q0, q1, q2, ol, o0, o1, of, ov⟩ := h
  refine ⟨lv, v0, v1, fv, f.blk hh (fun e => (ov _ e).2 rfl), hl.keepOff ol f, h0.keepOff o0 f, h1.keepOff o1 f, ?_, q0, q1, q2, ol, o0, o1, of, fun i hi => ⟨Nat.lt_of_lt_of_le (ov i hi).1 f.size, (ov i hi).2⟩⟩
  cases hc : s.arm with
  | none => rw [hc] at hf; exact hf
  | some c =>
    rw [hc] at hf
    obtain ⟨h0, h1, cb, h2, h3⟩ := hf
    exact ⟨h0, h1, cb, h2, f.blk h3 (of cb h2)⟩

theorem Off.shift {V' : Nat → Prop} {w : World} {v : Value} {L : List UInt8} (h : Off V v) (hb : Bytes w v L) (hV : ∀ i, V' i → V i ∨ w.heap.size ≤ i) : Off V' v := by
  intro a n c he hn hv
  subst he
  obtain ⟨ao, cap, e, h1, h2, h3, h4⟩ := hb
  injection e with e1 e2 e3
  subst e1; subst e2; subst e3
  obtain ⟨g, off, e4, hg, hc⟩ := h4 hn
  injection e4 with e4
  subst e4
  rcases hV _ hv with hv | hv
  · exact h _ _ _ rfl hn hv
  · have := hg (by decide); simp at hv; omega

/-- New blocks lie apart from a disk. -/
theorem Dk.shift {V' : Nat → Prop} {w w' : World} {b : Nat} {s : DSt} (h : Dk V w b s) (f : Fr none' w w') (hV : ∀ i, V' i → (V i ∨ w.heap.size ≤ i) ∧ i < w'.heap.size) : Dk V' w' b s := by
  have k := h.keep0 f
  obtain ⟨lv, v0, v1, fv, hh, hl, h0, h1, hf, q0, q1, q2, ol, o0, o1, of, ov⟩ := h
  have hbw := lt_of_blk hh
  obtain ⟨lv', v0', v1', fv', hh', hl', h0', h1', hf', _⟩ := k
  have e := (f.blk hh id).symm.trans hh'
  injection e with e
  injection e with e
  injection e with e
  simp only [List.cons.injEq, and_true] at e
  obtain ⟨rfl, rfl, rfl, _, rfl⟩ := e
  refine ⟨lv, v0, v1, fv, hh', hl', h0', h1', hf', q0, q1, q2, ol.shift hl (fun i hi => (hV i hi).1), o0.shift h0 (fun i hi => (hV i hi).1), o1.shift h1 (fun i hi => (hV i hi).1), fun cb hcb hv => ?_, fun i hi => ⟨(hV i hi).2, ?_⟩⟩
  · rcases (hV _ hv).1 with hv' | hv'
    · exact of cb hcb hv'
    · cases hc : s.arm with
      | none => rw [hc] at hf; rw [hf] at hcb; cases hcb
      | some c =>
        rw [hc] at hf
        obtain ⟨_, _, cb', h2, h3⟩ := hf
        rw [h2] at hcb
        injection hcb with _ _ hcb
        injection hcb with hcb
        injection hcb with hcb
        injection hcb with hcb
        injection hcb with hcb
        injection hcb with hcb
        subst hcb
        have := lt_of_blk h3
        omega
  · rcases (hV _ hi).1 with hv' | hv'
    · exact (ov i hv').2
    · omega
theorem Dk.bare {w : World} {b : Nat} {s : DSt} (h : Dk V w b s) : Dk none' w b s := h.shift (Fr.refl _ _) (fun _ h => h.elim)

/-- whole. -/
theorem whole_any (v : Value) (w : World) : Calls Try.prog 26 #[v] w fun e w' => e = .returned (.tuple #[v, .bool false]) ∧ w = w' := by
  go_enter Try.func26, Try.ntmps26
  go_wp2
  go_ret2
  exact ⟨rfl, rfl⟩

theorem Bytes.take {w : World} {v : Value} {L : List UInt8} (h : Bytes w v L) {ao : Option Addr} {n cap : Nat} (hv : v = .slice ao n cap) (m : Nat) (hm : m ≤ n) : Bytes w (.slice ao m cap) (L.take m) := by
  obtain ⟨ao', cap', e, h1, h2, h3, h4⟩ := h
  rw [hv] at e
  injection e with e1 e2 e3
  subst e1; subst e3
  have hl : (L.take m).length = m := by simp; omega
  refine ⟨ao, cap, by rw [hl], by omega, by simp [byt], h3, fun hn => ?_⟩
  obtain ⟨g, off, rfl, hg, hc⟩ := h4 (by omega)
  refine ⟨g, off, rfl, hg, fun j u hj => hc j u ?_⟩
  simp only [byt, List.map_take] at hj ⊢
  rw [List.getElem?_take] at hj
  split at hj
  · exact hj
  · cases hj

/-- Arm's closure: the first bytes of a write, as many as were told. -/
theorem laidArm_any (v : Value) (L : List UInt8) (cb : Nat) (c : Int) (w : World) (h : Bytes w v L) (h0 : 0 ≤ c) (h1 : c ≤ 9223372036854775807) (hc : w.heap[cb]? = some (.cells #[.int .i64 c] 3 (0, 0))) (hL : L.length ≤ 140737488355328) :
    Calls Try.prog 43 #[v, .pointer (some ⟨cb, 0, none⟩)] w fun e w' => ∃ v', e = .returned (.tuple #[v', .bool true]) ∧ Bytes w v' (L.take c.toNat) ∧ w = w' := by
  have hcell := cell_of_blk (o := 0) hc rfl
  have h' := h
  obtain ⟨ao, cap, rfl, hn, _, _, _⟩ := h'
  have ht := fun m => h.take rfl m
  have ht' := Lib.hid ht
  clear ht h
  by_cases hle : (L.length : Int) ≤ c
  · have e1 : L.take c.toNat = L.take L.length := by rw [List.take_of_length_le (by omega), List.take_length]
    have e1' := Lib.hid e1
    clear e1
    go_enter Try.func43, Try.ntmps43
    go_wp2
    go_ret2
    exact ⟨_, rfl, by rw [e1'.out]; exact ht'.out _ (Nat.le_refl _), rfl⟩
  · obtain ⟨m, rfl⟩ := Int.eq_ofNat_of_zero_le h0
    have hlt : m < L.length := by omega
    go_enter Try.func43, Try.ntmps43
    go_wp2
    go_ret2
    exact ⟨_, rfl, ht'.out _ (by omega), rfl⟩

theorem eql_func (fn : Fn) (x y : Array Value) (w : World) : (binOp .eql 51 (.func fn x y) .nilFunc).run Try.prog w = .ok (.bool false) w := by kernel_rfl
theorem eql_nilFunc (w : World) : (binOp .eql 51 .nilFunc .nilFunc).run Try.prog w = .ok (.bool true) w := by kernel_rfl

theorem LaysAt.func {w : World} {fv : Value} {c : Option Int} (h : LaysAt w fv c) : ∃ fn x y, fv = .func fn x y := by
  cases c with
  | none => exact ⟨_, _, _, h⟩
  | some c => obtain ⟨_, _, cb, h, _⟩ := h; exact ⟨_, _, _, h⟩

/-- The number of an error, by a bool. -/
def deadNo (d : Bool) : Int := if d then 130 else 0

/-- asked, of a disk that is one. -/
theorem asked_any (b : Nat) (s : DSt) (w : World) (h : Dk V w b s) : Calls Try.prog 37 #[.pointer (some ⟨b, 0, none⟩)] w fun e w' => e = .returned (.int .i64 (deadNo s.dead)) ∧ w = w' := by
  obtain ⟨lv, v0, v1, fv, hb, _, _, _, hf, _⟩ := h
  obtain ⟨fn, x, y, rfl⟩ := hf.func
  have qf := eql_func fn x y
  have c3 := cell_of_blk (o := 3) hb rfl
  have c4 := cell_of_blk (o := 4) hb rfl
  clear hf
  cases hd : s.dead with
  | true =>
    rw [hd] at c3
    clear hb hd
    go_enter Try.func37, Try.ntmps37
    go_wp2
    go_ret
    exact ⟨rfl, rfl⟩
  | false =>
    rw [hd] at c3
    clear hb hd
    go_enter Try.func37, Try.ntmps37
    go_wp2
    go_ret
    exact ⟨rfl, rfl⟩

/-- A disk that is none: nil, or of zeros. -/
def NoDk (w : World) (p : Option Addr) : Prop := p = none ∨ ∃ b, p = some ⟨b, 0, none⟩ ∧ w.heap[b]? = some (.cells #[.slice none 0 0, .slice none 0 0, .slice none 0 0, .bool false, .nilFunc] 53 (0, 0))
theorem NoDk.keep {w w' : World} {p : Option Addr} (h : NoDk w p) (f : Fr none' w w') : NoDk w' p := by
  rcases h with rfl | ⟨b, rfl, h⟩
  · exact .inl rfl
  · exact .inr ⟨b, rfl, f.blk h id⟩

theorem asked_no {p : Option Addr} {w : World} (h : NoDk w p) : Calls Try.prog 37 #[.pointer p] w fun e w' => e = .returned (.int .i64 1) ∧ w = w' := by
  have qn := eql_nilFunc
  rcases h with rfl | ⟨b, rfl, hb⟩
  · go_enter Try.func37, Try.ntmps37
    go_wp2
    go_ret
    exact ⟨rfl, rfl⟩
  · have c4 := cell_of_blk (o := 4) hb rfl
    clear hb
    go_enter Try.func37, Try.ntmps37
    go_wp2
    go_ret
    exact ⟨rfl, rfl⟩

/-- Cell 3 of a disk is turned. -/
theorem Dk.setDead {w : World} {b : Nat} {s : DSt} (h : Dk V w b s) (x : Bool) : Dk V (w.setCell ⟨b, 3, none⟩ (.bool x)) b { s with dead := x } := by
  have hn := h.noByte
  obtain ⟨lv, v0, v1, fv, hb, hl, h0, h1, hf, q0, q1, q2, ol, o0, o1, of, ov⟩ := h
  have f : Fr (one b) w (w.setCell ⟨b, 3, none⟩ (.bool x)) := (Fr.refl _ _).setCell _ _ (.inr rfl)
  exact ⟨lv, v0, v1, fv, by rw [blk_set_at hb rfl]; rfl, hl.keep f (fun b hb hS => (hn b hb hS).1), h0.keep f (fun b hb hS => (hn b hb hS).1), h1.keep f (fun b hb hS => (hn b hb hS).1), hf.keep f (fun b hb hS => (hn b hb hS).2), q0, q1, q2, ol, o0, o1, of, by simpa using ov⟩

theorem Dk.setLog {w : World} {b : Nat} {s : DSt} (h : Dk V w b s) {v : Value} {L : List UInt8} (hv : Bytes w v L) (hL : L.length ≤ 1048576) (hO : Off V v) : Dk V (w.setCell ⟨b, 0, none⟩ v) b { s with log := L } := by
  have hn := h.noByte
  obtain ⟨lv, v0, v1, fv, hb, hl, h0, h1, hf, _, q1, q2, ol, o0, o1, of, ov⟩ := h
  have f : Fr (one b) w (w.setCell ⟨b, 0, none⟩ v) := (Fr.refl _ _).setCell _ _ (.inr rfl)
  exact ⟨v, v0, v1, fv, by rw [blk_set_at hb rfl]; rfl, hv.keep f (fun b hb hS => (hn b hb hS).1), h0.keep f (fun b hb hS => (hn b hb hS).1), h1.keep f (fun b hb hS => (hn b hb hS).1), hf.keep f (fun b hb hS => (hn b hb hS).2), hL, q1, q2, hO, o0, o1, of, by simpa using ov⟩

/-- A slot is set. -/
def DSt.slot (s : DSt) (k : Nat) (L : List UInt8) : DSt := if k = 0 then { s with s0 := L } else { s with s1 := L }

theorem Dk.setSlot {w : World} {b : Nat} {s : DSt} (h : Dk V w b s) {v : Value} {L : List UInt8} (hv : Bytes w v L) (hL : L.length ≤ 65536) (k : Nat) (hk : k < 2) (hO : Off V v) : Dk V (w.setCell ⟨b, 1 + k, none⟩ v) b (s.slot k L) := by
  have hn := h.noByte
  obtain ⟨lv, v0, v1, fv, hb, hl, h0, h1, hf, r0, r1, r2, ol, o0, o1, of, ov⟩ := h
  have ov' : ∀ i, V i → i < (w.setCell ⟨b, 1 + k, none⟩ v).heap.size ∧ i ≠ b := by simpa using ov
  have f : Fr (one b) w (w.setCell ⟨b, 1 + k, none⟩ v) := (Fr.refl _ _).setCell _ _ (.inr rfl)
  have kl := hl.keep f (fun b hb hS => (hn b hb hS).1)
  have k0 := h0.keep f (fun b hb hS => (hn b hb hS).1)
  have k1 := h1.keep f (fun b hb hS => (hn b hb hS).1)
  have kv := hv.keep f (fun b hb hS => (hn b hb hS).1)
  have kf := hf.keep f (fun b hb hS => (hn b hb hS).2)
  obtain rfl | rfl : k = 0 ∨ k = 1 := by omega
  · exact ⟨lv, v, v1, fv, by rw [blk_set_at hb rfl]; rfl, kl, kv, k1, kf, r0, hL, r2, ol, hO, o1, of, ov'⟩
  · exact ⟨lv, v0, v, fv, by rw [blk_set_at hb rfl]; rfl, kl, k0, kv, kf, r0, r1, hL, ol, o0, hO, of, ov'⟩

theorem Bytes.cells {w : World} {v : Value} {L : List UInt8} (h : Bytes w v L) : ∃ ao cap, v = .slice ao L.length cap := by
  obtain ⟨ao, cap, h, _⟩ := h
  exact ⟨ao, cap, h⟩

theorem laid_length (s : DSt) (B : List UInt8) : (s.laid B).length ≤ B.length := by
  unfold DSt.laid
  split
  · exact Nat.le_refl _
  · simp; omega

set_option maxHeartbeats 400000 in
/-- write: what the armed function lets be written, behind what is ahead, in new memory. -/
theorem write_any (b : Nat) (s : DSt) (av bv : Value) (A B : List UInt8) (w : World) (h : Dk V w b s) (ha : Bytes w av A) (hb : Bytes w bv B) (hA : A.length ≤ 1048576) (hB : B.length ≤ 1048576) :
    Calls Try.prog 39 #[.pointer (some ⟨b, 0, none⟩), av, bv] w fun e w' => ∃ v', e = .returned (.tuple #[v', .int .i64 (deadNo s.arm.isSome)]) ∧ w'.ownsRow w.heap.size 5 1 v' (A ++ s.laid B).length (byt (A ++ s.laid B)) ∧ Dk V w' b { s with dead := s.arm.isSome } ∧ Fr (one b) w w' := by
  obtain ⟨i0, hi, hz0, hz1, hz2⟩ := info_parts Try.info5
  have hD := Lib.hid h
  obtain ⟨lv, v0, v1, fv, hh, _, _, _, hf, _⟩ := h
  have c4 := cell_of_blk (o := 4) hh rfl
  have c3 := cell_of_blk (o := 3) hh rfl
  have z3 := free_of_blk (o := 3) hh
  have hbw := lt_of_blk hh
  clear hh
  have hlay := laid_length s B
  obtain ⟨ao, ac, rfl⟩ := ha.cells
  cases harm : s.arm
  case' none =>
    rw [harm] at hf
    obtain rfl := hf
    have hlaid : s.laid B = B := by unfold DSt.laid; rw [harm]
    have HL := Lib.hid hlaid
    have hAr := Lib.hid harm
    clear hlaid harm
    go_enter Try.func39, Try.ntmps39
    go_wp2_with fail
    refine (whole_any _ _).mono ?_
    rintro e w' ⟨rfl, rfl⟩
    obtain ⟨bo, bc, rfl⟩ := hb.cells
    have hb' : Bytes w (.slice bo B.length bc) (s.laid B) := by rw [HL.out]; exact hb
    obtain ⟨n, hn⟩ : ∃ n, n = B.length := ⟨_, rfl⟩
    have hn' : n = (s.laid B).length := by rw [HL.out]; exact hn
    rw [← hn]
    rw [← hn] at hb'
    obtain ⟨d, hd⟩ : ∃ d, d = false := ⟨_, rfl⟩
    have hd' : d = (none : Option Int).isSome := hd
    rw [← hd]
  case' some c =>
    rw [harm] at hf
    obtain ⟨q0, q1, cb, rfl, hcb⟩ := hf
    have hlaid : s.laid B = B.take c.toNat := by unfold DSt.laid; rw [harm]
    have HL := Lib.hid hlaid
    have hAr := Lib.hid harm
    clear hlaid harm
    go_enter Try.func39, Try.ntmps39
    go_wp2_with fail
    refine (laidArm_any _ _ _ _ _ hb q0 q1 hcb (by omega)).mono ?_
    rintro e w' ⟨v1, rfl, hb', rfl⟩
    rw [← HL.out] at hb'
    obtain ⟨bo, bc, rfl⟩ := hb'.cells
    obtain ⟨n, hn⟩ : ∃ n, n = (s.laid B).length := ⟨_, rfl⟩
    have hn' : n = (s.laid B).length := hn
    rw [← hn]
    rw [← hn] at hb'
    obtain ⟨d, hd⟩ : ∃ d, d = true := ⟨_, rfl⟩
    have hd' : d = (some c : Option Int).isSome := hd
    rw [← hd]
    clear hcb q0 q1
  all_goals
    have hdk := hD.out.setDead d
    have hnb := hD.out.noByte
    have f1 : Fr (one b) w (w.setCell ⟨b, 3, none⟩ (.bool d)) := (Fr.refl _ _).setCell _ _ (.inr rfl)
    have ha1 := ha.keep f1 (fun b hb hS => (hnb b hb hS).1)
    have hb1 := hb'.keep f1 (fun b hb hS => (hnb b hb hS).1)
    unfold Bytes at hb1
    rw [← hn'] at hb1
    have hN := Lib.hid hn'
    have hDd := Lib.hid hd'
    have hnle : n ≤ 1048576 := by omega
    have hsz : (Try.prog.info? 5).map (fun x => x.size) = some 1 := by rw [hi]; simp [hz1]
    have hf1 := Lib.hid f1
    clear hn hd hnb ha hb hb' hlay hn' hd' HL f1
    rcases Nat.eq_zero_or_pos n with h0 | h0
  case' none.inl =>
    subst h0
    go_wp2_with (first
      | (at_make; refine wpList_make_sl rfl (.tmp 24) (.tmp 24) 27 rfl 5 i0 (.int .u8 0) Try.underlying27 hi hz0 hz1 rfl .i64 .i64 _ _ (A.length + 0) rfl rfl (by omega) (by omega) (by rw [hz2]; omega) (by omega) ?_; intro w2 cur hcur hg2 f2; have ha2 := ha1.keep0 f2; have hb2 := hb1.keep0 f2; have hdk2 := hdk.keep0 f2; simp only [World.size_setCell] at hg2)
      | ((with_reducible refine at_copy (args := #[.tmp 26, .tmp 27]) ?_); refine wpList_copy_sl rfl (.tmp 26) (.tmp 27) 27 rfl 5 Try.underlying27 hsz _ _ _ A.length _ rfl rfl w.heap.size 0 cur 5 hg2 (byt A) ha2 (by omega) (fun _ => rfl) (by omega) (byt_one A) ?_; intro w3 hg3 b3 s3; have f3 : Fr none' (w.setCell ⟨b, 3, none⟩ (.bool d)) w3 := f2.trans (Fr.of_belowB b3) (fun i hi h => by simp at hi; omega); have hb3 := hb1.keep0 f3; have hdk3 := hdk.keep0 f3)
      | ((with_reducible refine at_copy (args := #[.tmp 32, .tmp 33]) ?_); go_must (refine wpList_copy_sl rfl (.tmp 32) (.tmp 33) 27 rfl 5 Try.underlying27 hsz _ _ _ 0 _ rfl rfl w.heap.size A.length (splice cur 0 (byt A)) 5 hg3 (byt (s.laid B)) hb3 (by omega) (fun _ => by first | rfl | (exfalso; omega)) (by rw [length_splice _ _ _ (by rw [byt_length]; omega)]; omega) (byt_one _) ?_); intro w4 hg4 b4 s4; have f4 : Fr none' (w.setCell ⟨b, 3, none⟩ (.bool d)) w4 := f3.trans (Fr.of_belowB b4) (fun i hi h => by simp at hi; omega); have hdk4 := hdk.keep0 f4))
    have hn4 : (A ++ s.laid B).length = A.length + 0 := by rw [List.length_append, ← hN.out]
  case' none.inr =>
    go_wp2_with (first
      | (at_make; refine wpList_make_sl rfl (.tmp 24) (.tmp 24) 27 rfl 5 i0 (.int .u8 0) Try.underlying27 hi hz0 hz1 rfl .i64 .i64 _ _ (A.length + n) rfl rfl (by omega) (by omega) (by rw [hz2]; omega) (by omega) ?_; intro w2 cur hcur hg2 f2; have ha2 := ha1.keep0 f2; have hb2 := hb1.keep0 f2; have hdk2 := hdk.keep0 f2; simp only [World.size_setCell] at hg2)
      | ((with_reducible refine at_copy (args := #[.tmp 26, .tmp 27]) ?_); refine wpList_copy_sl rfl (.tmp 26) (.tmp 27) 27 rfl 5 Try.underlying27 hsz _ _ _ A.length _ rfl rfl w.heap.size 0 cur 5 hg2 (byt A) ha2 (by omega) (fun _ => rfl) (by omega) (byt_one A) ?_; intro w3 hg3 b3 s3; have f3 : Fr none' (w.setCell ⟨b, 3, none⟩ (.bool d)) w3 := f2.trans (Fr.of_belowB b3) (fun i hi h => by simp at hi; omega); have hb3 := hb1.keep0 f3; have hdk3 := hdk.keep0 f3)
      | ((with_reducible refine at_copy (args := #[.tmp 32, .tmp 33]) ?_); go_must (refine wpList_copy_sl rfl (.tmp 32) (.tmp 33) 27 rfl 5 Try.underlying27 hsz _ _ _ n _ rfl rfl w.heap.size A.length (splice cur 0 (byt A)) 5 hg3 (byt (s.laid B)) hb3 (by omega) (fun _ => by first | rfl | (exfalso; omega)) (by rw [length_splice _ _ _ (by rw [byt_length]; omega)]; omega) (byt_one _) ?_); intro w4 hg4 b4 s4; have f4 : Fr none' (w.setCell ⟨b, 3, none⟩ (.bool d)) w4 := f3.trans (Fr.of_belowB b4) (fun i hi h => by simp at hi; omega); have hdk4 := hdk.keep0 f4))
    have hn4 : (A ++ s.laid B).length = A.length + n := by rw [List.length_append, ← hN.out]
  case' some.inl =>
    subst h0
    go_wp2_with (first
      | (at_make; refine wpList_make_sl rfl (.tmp 24) (.tmp 24) 27 rfl 5 i0 (.int .u8 0) Try.underlying27 hi hz0 hz1 rfl .i64 .i64 _ _ (A.length + 0) rfl rfl (by omega) (by omega) (by rw [hz2]; omega) (by omega) ?_; intro w2 cur hcur hg2 f2; have ha2 := ha1.keep0 f2; have hb2 := hb1.keep0 f2; have hdk2 := hdk.keep0 f2; simp only [World.size_setCell] at hg2)
      | ((with_reducible refine at_copy (args := #[.tmp 26, .tmp 27]) ?_); refine wpList_copy_sl rfl (.tmp 26) (.tmp 27) 27 rfl 5 Try.underlying27 hsz _ _ _ A.length _ rfl rfl w.heap.size 0 cur 5 hg2 (byt A) ha2 (by omega) (fun _ => rfl) (by omega) (byt_one A) ?_; intro w3 hg3 b3 s3; have f3 : Fr none' (w.setCell ⟨b, 3, none⟩ (.bool d)) w3 := f2.trans (Fr.of_belowB b3) (fun i hi h => by simp at hi; omega); have hb3 := hb1.keep0 f3; have hdk3 := hdk.keep0 f3)
      | ((with_reducible refine at_copy (args := #[.tmp 32, .tmp 33]) ?_); go_must (refine wpList_copy_sl rfl (.tmp 32) (.tmp 33) 27 rfl 5 Try.underlying27 hsz _ _ _ 0 _ rfl rfl w.heap.size A.length (splice cur 0 (byt A)) 5 hg3 (byt (s.laid B)) hb3 (by omega) (fun _ => by first | rfl | (exfalso; omega)) (by rw [length_splice _ _ _ (by rw [byt_length]; omega)]; omega) (byt_one _) ?_); intro w4 hg4 b4 s4; have f4 : Fr none' (w.setCell ⟨b, 3, none⟩ (.bool d)) w4 := f3.trans (Fr.of_belowB b4) (fun i hi h => by simp at hi; omega); have hdk4 := hdk.keep0 f4))
    have hn4 : (A ++ s.laid B).length = A.length + 0 := by rw [List.length_append, ← hN.out]
  case' some.inr =>
    go_wp2_with (first
      | (at_make; refine wpList_make_sl rfl (.tmp 24) (.tmp 24) 27 rfl 5 i0 (.int .u8 0) Try.underlying27 hi hz0 hz1 rfl .i64 .i64 _ _ (A.length + n) rfl rfl (by omega) (by omega) (by rw [hz2]; omega) (by omega) ?_; intro w2 cur hcur hg2 f2; have ha2 := ha1.keep0 f2; have hb2 := hb1.keep0 f2; have hdk2 := hdk.keep0 f2; simp only [World.size_setCell] at hg2)
      | ((with_reducible refine at_copy (args := #[.tmp 26, .tmp 27]) ?_); refine wpList_copy_sl rfl (.tmp 26) (.tmp 27) 27 rfl 5 Try.underlying27 hsz _ _ _ A.length _ rfl rfl w.heap.size 0 cur 5 hg2 (byt A) ha2 (by omega) (fun _ => rfl) (by omega) (byt_one A) ?_; intro w3 hg3 b3 s3; have f3 : Fr none' (w.setCell ⟨b, 3, none⟩ (.bool d)) w3 := f2.trans (Fr.of_belowB b3) (fun i hi h => by simp at hi; omega); have hb3 := hb1.keep0 f3; have hdk3 := hdk.keep0 f3)
      | ((with_reducible refine at_copy (args := #[.tmp 32, .tmp 33]) ?_); go_must (refine wpList_copy_sl rfl (.tmp 32) (.tmp 33) 27 rfl 5 Try.underlying27 hsz _ _ _ n _ rfl rfl w.heap.size A.length (splice cur 0 (byt A)) 5 hg3 (byt (s.laid B)) hb3 (by omega) (fun _ => by first | rfl | (exfalso; omega)) (by rw [length_splice _ _ _ (by rw [byt_length]; omega)]; omega) (byt_one _) ?_); intro w4 hg4 b4 s4; have f4 : Fr none' (w.setCell ⟨b, 3, none⟩ (.bool d)) w4 := f3.trans (Fr.of_belowB b4) (fun i hi h => by simp at hi; omega); have hdk4 := hdk.keep0 f4))
    have hn4 : (A ++ s.laid B).length = A.length + n := by rw [List.length_append, ← hN.out]
  all_goals
    refine (asked_any _ _ _ hdk4).mono ?_
    rintro e w' ⟨rfl, rfl⟩
    rw [splice_two_at _ _ _ _ (byt_length A) (by rw [byt_length, ← hN.out]; exact hcur)] at hg4
    go_wp2_with fail
    go_ret2
    have hfin : byt (A ++ s.laid B) = byt A ++ byt (s.laid B) := by simp [byt]
    refine ⟨_, by rw [hDd.out]; rfl, ?_, ?_, hf1.out.trans f4 (fun _ _ h => h.elim)⟩
    · rw [hn4, hfin]
      exact own_row hg4 (Nat.le_refl _) (by rw [← hfin, byt_length]; exact hn4) (by omega)
    · rw [hDd.out, hAr.out] at hdk4
      exact hdk4

/-! ### The methods -/
/-- What Append does. -/
def DSt.append (s : DSt) (B : List UInt8) : DSt × Int :=
  if s.dead then (s, 130) else if 1048576 < s.log.length + B.length then (s, 5) else ({ s with log := s.log ++ s.laid B, dead := s.arm.isSome }, deadNo s.arm.isSome)

set_option maxHeartbeats 400000 in
theorem append_any (b : Nat) (s : DSt) (bv : Value) (B : List UInt8) (w : World) (h : Dk V w b s) (hb : Bytes w bv B) (hB : B.length ≤ 140737488355328) :
    Calls Try.prog 24 #[.pointer (some ⟨b, 0, none⟩), bv] w fun e w' => e = .returned (.int .i64 (s.append B).2) ∧ Dk V w' b (s.append B).1 ∧ Fr (one b) w w' := by
  have hD := Lib.hid h
  obtain ⟨lv, v0, v1, fv, hh, hl, _, _, _, hll, _, _⟩ := h
  obtain ⟨bo, bc, rfl⟩ := hb.cells
  obtain ⟨lo, lc, rfl⟩ := hl.cells
  have c0 := cell_of_blk (o := 0) hh rfl
  have z0 := free_of_blk (o := 0) hh
  clear hh
  by_cases hd : s.dead = true
  · have e1 : s.append B = (s, 130) := by unfold DSt.append; rw [if_pos hd]
    rw [e1]
    go_enter Try.func24, Try.ntmps24
    go_wp2_with fail
    refine (asked_any _ _ _ hD.out).mono ?_
    rintro e w' ⟨rfl, rfl⟩
    rw [hd]
    unfold deadNo
    go_wp2_with fail
    go_ret
    exact ⟨rfl, hD.out, Fr.refl _ _⟩
  · have hd' : s.dead = false := by simpa using hd
    by_cases hs : 1048576 < s.log.length + B.length
    · have e1 : s.append B = (s, 5) := by unfold DSt.append; rw [if_neg hd, if_pos hs]
      rw [e1]
      clear e1 hd
      go_enter Try.func24, Try.ntmps24
      go_wp2_with fail
      refine (asked_any _ _ _ hD.out).mono ?_
      rintro e w' ⟨rfl, rfl⟩
      rw [hd']
      unfold deadNo
      clear hd'
      go_wp2_with fail
      go_ret
      exact ⟨rfl, hD.out, Fr.refl _ _⟩
    · have e1 : s.append B = ({ s with log := s.log ++ s.laid B, dead := s.arm.isSome }, deadNo s.arm.isSome) := by unfold DSt.append; rw [if_neg hd, if_neg hs]
      rw [e1]
      clear e1 hd
      have hlay := laid_length s B
      go_enter Try.func24, Try.ntmps24
      go_wp2_with fail
      refine (asked_any _ _ _ hD.out).mono ?_
      rintro e w' ⟨rfl, rfl⟩
      rw [hd']
      unfold deadNo
      clear hd'
      go_wp2_with fail
      refine (write_any b s _ _ s.log B w hD.out hl hb hll (by omega)).mono ?_
      rintro e w1 ⟨v', rfl, ho, hd1, f1⟩
      obtain ⟨lv', v0', v1', fv', hh', _⟩ := id hd1
      have c0' := cell_of_blk (o := 0) hh' rfl
      have z0' := free_of_blk (o := 0) hh'
      have hd2 := hd1.setLog (Sl.of_own ho : Bytes w1 v' (s.log ++ s.laid B)) (by simp; omega) (Off.own ho hD.out.old)
      obtain ⟨vo, vc, rfl⟩ := Bytes.cells (w := w1) (L := s.log ++ s.laid B) (Sl.of_own ho)
      have hd3 := Lib.hid hd2
      clear c0 z0 hh' hd1 hd2 ho
      go_wp2_with fail
      go_ret
      have hd4 := hd3.out
      rw [List.length_append] at hd4
      exact ⟨rfl, hd4, f1.setCell _ _ (.inr rfl)⟩


theorem Bytes.drop {w : World} {ao : Option Addr} {n cap : Nat} {L : List UInt8} (h : Bytes w (.slice ao n cap) L) (m : Nat) (hm : m ≤ n) (ao' : Option Addr) (hao : ao = none → ao' = none) (hao' : ∀ g off, m < n → ao = some ⟨g, off, none⟩ → ao' = some ⟨g, off + m, none⟩) (hn' : ao' = none → cap = m) :
    Bytes w (.slice ao' (n - m) (cap - m)) (L.drop m) := by
  obtain ⟨ao1, cap1, e, h1, h2, h3, h4⟩ := h
  injection e with e1 e2 e3
  subst e1; subst e2; subst e3
  have hl : (L.drop m).length = L.length - m := by simp
  refine ⟨ao', cap - m, by rw [hl], by omega, by simp [byt], fun h => by have := hn' h; omega, fun hn => ?_⟩
  obtain ⟨g, off, rfl, hg, hc⟩ := h4 (by omega)
  refine ⟨g, off + m, hao' g off (by omega) rfl, hg, fun j u hj => ?_⟩
  rw [Nat.add_assoc]
  refine hc (m + j) u ?_
  simp only [byt, List.map_drop] at hj ⊢
  rw [List.getElem?_drop] at hj
  exact hj

theorem Bytes.facts {w : World} {ao : Option Addr} {n cap : Nat} {L : List UInt8} (h : Bytes w (.slice ao n cap) L) : n = L.length ∧ n ≤ cap ∧ (ao = none → cap = 0) := by
  obtain ⟨ao1, cap1, e, h1, h2, h3, h4⟩ := h
  injection e with e1 e2 e3
  subst e1; subst e2; subst e3
  exact ⟨rfl, h1, h3⟩
theorem Bytes.empty (w : World) (ao : Option Addr) (cap : Nat) (h : ao = none → cap = 0) : Bytes w (.slice ao 0 cap) [] :=
  ⟨ao, cap, rfl, Nat.zero_le _, rfl, h, fun h => absurd h (by decide)⟩

theorem trim1_any (b cb n : Nat) (s : DSt) (w : World) (h : Dk V w b s) (hcb : w.cell? ⟨cb, 0, none⟩ = some (.pointer (some ⟨b, 0, none⟩))) (hn : n ≤ s.log.length) :
    Calls Try.prog 41 #[.int .i64 n, .pointer (some ⟨cb, 0, none⟩)] w fun e w' => ∃ v, e = .returned v ∧ Bytes w v (s.log.drop n) ∧ w = w' := by
  obtain ⟨lv, v0, v1, fv, hh, hl, _, _, _, hll, _, _⟩ := h
  obtain ⟨lo, lc, rfl⟩ := hl.cells
  have c0 := cell_of_blk (o := 0) hh rfl
  have hl' := Lib.hid hl
  clear hh hl
  go_enter Try.func41, Try.ntmps41
  go_wp2_with fail
  · obtain ⟨_, f1, f2⟩ := hl'.out.facts
    go_ret
    have e0 : s.log.drop n = [] := List.drop_eq_nil_of_le (by omega)
    have e1 : s.log.length - n = 0 := by omega
    rw [e0]
    refine ⟨_, rfl, ?_, rfl⟩
    show Bytes w (.slice lo (s.log.length - n) 0) []
    rw [e1]
    exact Bytes.empty _ _ _ (fun _ => rfl)
  · have hlc : ¬ lc = n := by assumption
    obtain ⟨_, f1, f2⟩ := hl'.out.facts
    go_ret
    refine ⟨_, rfl, hl'.out.drop n hn _ (fun h => by rw [h]; rfl) (fun g off _ h => by rw [h]; simp [Addr.add]) (fun h => ?_), rfl⟩
    cases lo with
    | none => have := f2 rfl; omega
    | some a => cases h

theorem cut1_any (b cb n : Nat) (s : DSt) (w : World) (h : Dk V w b s) (hcb : w.cell? ⟨cb, 0, none⟩ = some (.pointer (some ⟨b, 0, none⟩))) (hn : n ≤ s.log.length) :
    Calls Try.prog 42 #[.int .i64 n, .pointer (some ⟨cb, 0, none⟩)] w fun e w' => ∃ v, e = .returned v ∧ Bytes w v (s.log.take n) ∧ w = w' := by
  obtain ⟨lv, v0, v1, fv, hh, hl, _, _, _, hll, _, _⟩ := h
  obtain ⟨lo, lc, rfl⟩ := hl.cells
  have c0 := cell_of_blk (o := 0) hh rfl
  have ht := Lib.hid (Bytes.take hl rfl n hn)
  obtain ⟨_, f1, f2⟩ := hl.facts
  clear hh hl f2
  go_enter Try.func42, Try.ntmps42
  go_wp2_with fail
  go_ret
  exact ⟨_, rfl, ht.out, rfl⟩

theorem Dk.relog {w w' : World} {b : Nat} {s : DSt} (h : Dk V w b s) (f : Fr (one b) w w') {v : Value} {L : List UInt8} (hb' : w'.heap[b]? = (w.heap[b]?).map (putObj ⟨b, 0, none⟩ v)) (hv : Bytes w' v L) (hL : L.length ≤ 1048576) (hO : Off V v) : Dk V w' b { s with log := L } := by
  have hn := h.noByte
  obtain ⟨lv, v0, v1, fv, hb, hl, h0, h1, hf, _, q1, q2, ol, o0, o1, of, ov⟩ := h
  exact ⟨v, v0, v1, fv, by rw [hb', hb]; rfl, hv, h0.keep f (fun b hb hS => (hn b hb hS).1), h1.keep f (fun b hb hS => (hn b hb hS).1), hf.keep f (fun b hb hS => (hn b hb hS).2), hL, q1, q2, hO, o0, o1, of, fun i hi => ⟨Nat.lt_of_lt_of_le (ov i hi).1 f.size, (ov i hi).2⟩⟩

/-- What Trim and Cut do. -/
def DSt.trim (s : DSt) (n : Int) : DSt × Int := if s.dead then (s, 130) else if n < 0 ∨ s.log.length < n then (s, 9) else ({ s with log := s.log.drop n.toNat }, 0)
def DSt.cut (s : DSt) (n : Int) : DSt × Int := if s.dead then (s, 130) else if n < 0 ∨ s.log.length < n then (s, 9) else ({ s with log := s.log.take n.toNat }, 0)

set_option maxHeartbeats 400000 in
theorem keep_trim (b cb : Nat) (n : Int) (s : DSt) (w : World) (h : Dk V w b s) (hcb : w.cell? ⟨cb, 0, none⟩ = some (.pointer (some ⟨b, 0, none⟩))) :
    Calls Try.prog 40 #[.pointer (some ⟨b, 0, none⟩), .int .i64 n, .func (.func 41) #[] #[.pointer (some ⟨cb, 0, none⟩)]] w fun e w' => e = .returned (.int .i64 (s.trim n).2) ∧ Dk V w' b (s.trim n).1 ∧ Fr (one b) w w' := by
  obtain ⟨i0, hi, hz0, hz1, hz2⟩ := info_parts Try.info5
  have hsz : (Try.prog.info? 5).map (fun x => x.size) = some 1 := by rw [hi]; simp [hz1]
  have hD := Lib.hid h
  obtain ⟨lv, v0, v1, fv, hh, hl, _, _, _, hll, _, _⟩ := h
  obtain ⟨lo, lc, rfl⟩ := hl.cells
  have c0 := cell_of_blk (o := 0) hh rfl
  have hbw := lt_of_blk hh
  by_cases hd : s.dead = true
  · have e1 : s.trim n = (s, 130) := by unfold DSt.trim; rw [if_pos hd]
    rw [e1]
    clear e1
    go_enter Try.func40, Try.ntmps40
    go_wp2_with fail
    refine (asked_any _ _ _ hD.out).mono ?_
    rintro e w' ⟨rfl, rfl⟩
    rw [hd]
    unfold deadNo
    clear hd
    go_wp2_with fail
    go_ret
    exact ⟨rfl, hD.out, Fr.refl _ _⟩
  · have hd' : s.dead = false := by simpa using hd
    by_cases hn : n < 0 ∨ s.log.length < n
    · have e1 : s.trim n = (s, 9) := by unfold DSt.trim; rw [if_neg hd, if_pos hn]
      rw [e1]
      clear e1 hd
      rcases (show n < 0 ∨ 0 ≤ n by omega) with hn0 | hn0
      all_goals
        go_enter Try.func40, Try.ntmps40
        go_wp2_with fail
        refine (asked_any _ _ _ hD.out).mono ?_
        rintro e w' ⟨rfl, rfl⟩
        rw [hd']
        unfold deadNo
        clear hd'
        have hn1 := hn
        go_wp2_with fail
        go_ret
        exact ⟨rfl, hD.out, Fr.refl _ _⟩
    · have e1 : s.trim n = ({ s with log := s.log.drop n.toNat }, 0) := by unfold DSt.trim; rw [if_neg hd, if_neg hn]
      rw [e1]
      clear e1 hd
      obtain ⟨m, rfl⟩ := Int.eq_ofNat_of_zero_le (show 0 ≤ n by omega)
      have hm : m ≤ s.log.length := by omega
      have hK : (s.log.drop m).length ≤ s.log.length := by simp; try omega
      simp only [Int.toNat_natCast]
      have hcl := trim1_any b cb m s w hD.out hcb hm
      obtain ⟨K, hKK⟩ : ∃ K, K = s.log.drop m := ⟨_, rfl⟩
      rw [← hKK] at hK hcl ⊢
      have hcl' := Lib.hid hcl
      clear hKK hcl hn
      go_enter Try.func40, Try.ntmps40
      go_wp2_with fail
      refine (asked_any _ _ _ hD.out).mono ?_
      rintro e w' ⟨rfl, rfl⟩
      rw [hd']
      unfold deadNo
      clear hd'
      go_wp2_with fail
      refine hcl'.out.mono ?_
      rintro e w' ⟨kv, rfl, hk, rfl⟩
      obtain ⟨ko, kc, rfl⟩ := hk.cells
      clear hcl'
      go_wp2_with (first
        | (at_make; refine wpList_make_sl rfl (.tmp 30) (.tmp 30) 27 rfl 5 i0 (.int .u8 0) Try.underlying27 hi hz0 hz1 rfl .i64 .i64 _ _ K.length rfl rfl (by omega) (by omega) (by rw [hz2]; omega) (by omega) ?_; intro w2 cur hcur hg2 f2; have hh2 := f2.blk hh id; have c02 := cell_of_blk (o := 0) hh2 rfl; have z02 := free_of_blk (o := 0) hh2)
        | ((with_reducible refine at_copy (args := #[.tmp 37, .tmp 38]) ?_); go_must (refine wpList_copy_sl rfl (.tmp 37) (.tmp 38) 27 rfl 5 Try.underlying27 hsz _ _ _ K.length _ rfl rfl w.heap.size 0 cur 5 (by rw [blk_set_other (by show w.heap.size ≠ b; omega)]; exact hg2) (byt K) ((hk.keep0 f2).keep ((Fr.refl (one b) w2).setCell _ _ (.inr rfl)) (fun b' hb' hS => ((hD.out.keep0 f2).noByte b' hb' hS).1)) (Nat.le_refl _) (fun _ => rfl) (by omega) (byt_one K) ?_); intro w4 hg4 b4 s4))
      go_ret
      have e4 : splice cur 0 (byt K) = byt K := by
        unfold splice
        rw [List.take_zero, List.nil_append, Nat.zero_add, List.drop_eq_nil_of_le (by rw [byt_length]; omega), List.append_nil]
      rw [e4] at hg4
      have f3 : Fr (one b) w (w2.setCell ⟨b, 0, none⟩ (.slice (some ⟨w.heap.size, 0, none⟩) K.length K.length)) := (f2.mono (fun _ _ h => h.elim)).setCell _ _ (.inr rfl)
      have f4 : Fr (one b) w w4 := f3.trans (Fr.of_belowB b4) (fun i hi h => by omega)
      refine ⟨rfl, hD.out.relog f4 (v := .slice (some ⟨w.heap.size, 0, none⟩) K.length K.length) ?_ (Sl.of_own (own_row hg4 (Nat.le_refl _) (byt_length K) (by omega))) (by omega) (Off.own (own_row hg4 (Nat.le_refl _) (byt_length K) (by omega)) hD.out.old), f4⟩
      rw [b4.block b (by omega), blk_set_same rfl, f2.block b (by omega) id]

set_option maxHeartbeats 400000 in
theorem keep_cut (b cb : Nat) (n : Int) (s : DSt) (w : World) (h : Dk V w b s) (hcb : w.cell? ⟨cb, 0, none⟩ = some (.pointer (some ⟨b, 0, none⟩))) :
    Calls Try.prog 40 #[.pointer (some ⟨b, 0, none⟩), .int .i64 n, .func (.func 42) #[] #[.pointer (some ⟨cb, 0, none⟩)]] w fun e w' => e = .returned (.int .i64 (s.cut n).2) ∧ Dk V w' b (s.cut n).1 ∧ Fr (one b) w w' := by
  obtain ⟨i0, hi, hz0, hz1, hz2⟩ := info_parts Try.info5
  have hsz : (Try.prog.info? 5).map (fun x => x.size) = some 1 := by rw [hi]; simp [hz1]
  have hD := Lib.hid h
  obtain ⟨lv, v0, v1, fv, hh, hl, _, _, _, hll, _, _⟩ := h
  obtain ⟨lo, lc, rfl⟩ := hl.cells
  have c0 := cell_of_blk (o := 0) hh rfl
  have hbw := lt_of_blk hh
  by_cases hd : s.dead = true
  · have e1 : s.cut n = (s, 130) := by unfold DSt.cut; rw [if_pos hd]
    rw [e1]
    clear e1
    go_enter Try.func40, Try.ntmps40
    go_wp2_with fail
    refine (asked_any _ _ _ hD.out).mono ?_
    rintro e w' ⟨rfl, rfl⟩
    rw [hd]
    unfold deadNo
    clear hd
    go_wp2_with fail
    go_ret
    exact ⟨rfl, hD.out, Fr.refl _ _⟩
  · have hd' : s.dead = false := by simpa using hd
    by_cases hn : n < 0 ∨ s.log.length < n
    · have e1 : s.cut n = (s, 9) := by unfold DSt.cut; rw [if_neg hd, if_pos hn]
      rw [e1]
      clear e1 hd
      rcases (show n < 0 ∨ 0 ≤ n by omega) with hn0 | hn0
      all_goals
        go_enter Try.func40, Try.ntmps40
        go_wp2_with fail
        refine (asked_any _ _ _ hD.out).mono ?_
        rintro e w' ⟨rfl, rfl⟩
        rw [hd']
        unfold deadNo
        clear hd'
        have hn1 := hn
        go_wp2_with fail
        go_ret
        exact ⟨rfl, hD.out, Fr.refl _ _⟩
    · have e1 : s.cut n = ({ s with log := s.log.take n.toNat }, 0) := by unfold DSt.cut; rw [if_neg hd, if_neg hn]
      rw [e1]
      clear e1 hd
      obtain ⟨m, rfl⟩ := Int.eq_ofNat_of_zero_le (show 0 ≤ n by omega)
      have hm : m ≤ s.log.length := by omega
      have hK : (s.log.take m).length ≤ s.log.length := by simp; try omega
      simp only [Int.toNat_natCast]
      have hcl := cut1_any b cb m s w hD.out hcb hm
      obtain ⟨K, hKK⟩ : ∃ K, K = s.log.take m := ⟨_, rfl⟩
      rw [← hKK] at hK hcl ⊢
      have hcl' := Lib.hid hcl
      clear hKK hcl hn
      go_enter Try.func40, Try.ntmps40
      go_wp2_with fail
      refine (asked_any _ _ _ hD.out).mono ?_
      rintro e w' ⟨rfl, rfl⟩
      rw [hd']
      unfold deadNo
      clear hd'
      go_wp2_with fail
      refine hcl'.out.mono ?_
      rintro e w' ⟨kv, rfl, hk, rfl⟩
      obtain ⟨ko, kc, rfl⟩ := hk.cells
      clear hcl'
      go_wp2_with (first
        | (at_make; refine wpList_make_sl rfl (.tmp 30) (.tmp 30) 27 rfl 5 i0 (.int .u8 0) Try.underlying27 hi hz0 hz1 rfl .i64 .i64 _ _ K.length rfl rfl (by omega) (by omega) (by rw [hz2]; omega) (by omega) ?_; intro w2 cur hcur hg2 f2; have hh2 := f2.blk hh id; have c02 := cell_of_blk (o := 0) hh2 rfl; have z02 := free_of_blk (o := 0) hh2)
        | ((with_reducible refine at_copy (args := #[.tmp 37, .tmp 38]) ?_); go_must (refine wpList_copy_sl rfl (.tmp 37) (.tmp 38) 27 rfl 5 Try.underlying27 hsz _ _ _ K.length _ rfl rfl w.heap.size 0 cur 5 (by rw [blk_set_other (by show w.heap.size ≠ b; omega)]; exact hg2) (byt K) ((hk.keep0 f2).keep ((Fr.refl (one b) w2).setCell _ _ (.inr rfl)) (fun b' hb' hS => ((hD.out.keep0 f2).noByte b' hb' hS).1)) (Nat.le_refl _) (fun _ => rfl) (by omega) (byt_one K) ?_); intro w4 hg4 b4 s4))
      go_ret
      have e4 : splice cur 0 (byt K) = byt K := by
        unfold splice
        rw [List.take_zero, List.nil_append, Nat.zero_add, List.drop_eq_nil_of_le (by rw [byt_length]; omega), List.append_nil]
      rw [e4] at hg4
      have f3 : Fr (one b) w (w2.setCell ⟨b, 0, none⟩ (.slice (some ⟨w.heap.size, 0, none⟩) K.length K.length)) := (f2.mono (fun _ _ h => h.elim)).setCell _ _ (.inr rfl)
      have f4 : Fr (one b) w w4 := f3.trans (Fr.of_belowB b4) (fun i hi h => by omega)
      refine ⟨rfl, hD.out.relog f4 (v := .slice (some ⟨w.heap.size, 0, none⟩) K.length K.length) ?_ (Sl.of_own (own_row hg4 (Nat.le_refl _) (byt_length K) (by omega))) (by omega) (Off.own (own_row hg4 (Nat.le_refl _) (byt_length K) (by omega)) hD.out.old), f4⟩
      rw [b4.block b (by omega), blk_set_same rfl, f2.block b (by omega) id]

end Go.Proofs.Ytnflppgmccddoaa
