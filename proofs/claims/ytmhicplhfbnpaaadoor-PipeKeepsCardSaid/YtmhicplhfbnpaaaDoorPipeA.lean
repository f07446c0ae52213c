/-
  gimbal/pipe: how a pipe stands; none, Base, Top, place, Cut, Trim.
-/
import Derived.Test.YtmhicplhfbnpaaaDoorEntR
import Derived.RegionTactic
namespace Go.Proofs.YtmhicplhfbnpaaaDoor
set_option linter.unusedVariables false
set_option linter.unusedSimpArgs false
open Go.RowKit
variable {F : Nat → Prop}

/-- The block of a slice. -/
def vblk : Value → Option Nat
  | .slice (some a) _ _ => some a.block
  | _ => none

/-- The entries of a pipe: in blocks of F, their lines in others than the row itself. -/
structure PEnts (F : Nat → Prop) (w : World) (lv : Value) (xs : List EV) : Prop where
  sl : Sl w lv 7 xs.length (entc xs)
  mem : In F lv
  lines : ∀ x ∈ xs, LinesAt (fun b => F b ∧ vblk lv ≠ some b) w x.v x.e.lines
  room : (w.ownsRow 0 34 7 lv xs.length (entc xs) ∧ ∀ b, lv.ownBlock = some b → F b) ∨ (∃ a n, lv = .slice a n n)
theorem PEnts.keep {S : Nat → Prop} {w w' : World} {lv : Value} {xs : List EV} (h : PEnts F w lv xs) (f : Fr S w w') (hS : ∀ b, F b → b < w.heap.size → ¬ S b) : PEnts F w' lv xs :=
  ⟨h.sl.keepIn h.mem f hS, h.mem, fun x hx => (h.lines x hx).keep f (fun b hb hl => hS b hb.1 hl), h.room.imp (fun ⟨h1, h2⟩ => ⟨ownsRow_keep h1 f (fun b hb => hS b (h2 b hb) (ownsRow_block h1 b hb).2), h2⟩) id⟩
theorem PEnts.ents {w : World} {lv : Value} {xs : List EV} (h : PEnts F w lv xs) : EntsAt F w lv xs := ⟨h.sl, h.mem, fun x hx => (h.lines x hx).mono (fun b hb => hb.1)⟩
theorem PEnts.cells {w : World} {lv : Value} {xs : List EV} (h : PEnts F w lv xs) : ∃ a c, lv = .slice a xs.length c ∧ xs.length ≤ c := by
  obtain ⟨a, c, rfl, h1, _⟩ := h.sl
  exact ⟨a, c, rfl, h1⟩

/-- A pipe at block p. -/
structure Pp (F : Nat → Prop) (w : World) (p : Nat) (base : Int) (xs : List EV) : Prop where
  row : ∃ lv, w.heap[p]? = some (.cells #[.int .i64 base, lv, .bool true] 67 (0, 0)) ∧ PEnts F w lv xs
  np : ¬ F p
  few : xs.length ≤ 24
  wf : ∀ x ∈ xs, x.e.wf
theorem PEnts.live {w : World} {lv : Value} {xs : List EV} (h : PEnts F w lv xs) : PEnts (fun i => F i ∧ i < w.heap.size) w lv xs :=
  ⟨h.sl, h.mem.live (by decide) h.sl, fun x hx => ⟨(h.lines x hx).sl, ((h.lines x hx).mem.live (by decide) (h.lines x hx).sl).mono (fun b hb => ⟨⟨hb.1.1, hb.2⟩, hb.1.2⟩)⟩, h.room.imp (fun ⟨h1, h2⟩ => ⟨h1, fun b hb => ⟨h2 b hb, (ownsRow_block h1 b hb).2⟩⟩) id⟩
theorem Pp.live {w : World} {p : Nat} {base : Int} {xs : List EV} (h : Pp F w p base xs) : Pp (fun i => F i ∧ i < w.heap.size) w p base xs := by
  obtain ⟨lv, h1, h2⟩ := h.row
  exact ⟨⟨lv, h1, h2.live⟩, fun e => h.np e.1, h.few, h.wf⟩
theorem Pp.lt {w : World} {p : Nat} {base : Int} {xs : List EV} (h : Pp F w p base xs) : p < w.heap.size := by
  obtain ⟨lv, h1, _⟩ := h.row
  exact lt_of_blk h1
theorem Pp.keep {S : Nat → Prop} {w w' : World} {p : Nat} {base : Int} {xs : List EV} (h : Pp F w p base xs) (f : Fr S w w') (hp : ¬ S p) (hS : ∀ b, F b → b < w.heap.size → ¬ S b) : Pp F w' p base xs := by
  obtain ⟨lv, h1, h2⟩ := h.row
  exact ⟨⟨lv, f.blk h1 hp, h2.keep f hS⟩, h.np, h.few, h.wf⟩
theorem Pp.keep0 {w w' : World} {p : Nat} {base : Int} {xs : List EV} (h : Pp F w p base xs) (f : Fr none' w w') : Pp F w' p base xs := h.keep f id (fun _ _ _ h => h)

theorem pnone_any (p : Nat) (base : Int) (xs : List EV) (w : World) (h : Pp F w p base xs) : Calls Tryd.prog 40 #[.pointer (some ⟨p, 0, none⟩)] w fun e w' => e = .returned (.bool false) ∧ w = w' := by
  obtain ⟨lv, hh, _⟩ := h.row
  have c2 := cell_of_blk (o := 2) hh rfl
  clear hh h
  go_enter Tryd.func40, Tryd.ntmps40
  go_wp2
  go_ret
  exact ⟨rfl, rfl⟩

theorem pbase_any (p : Nat) (base : Int) (xs : List EV) (w : World) (h : Pp F w p base xs) : Calls Tryd.prog 28 #[.pointer (some ⟨p, 0, none⟩)] w fun e w' => e = .returned (.int .i64 base) ∧ w = w' := by
  have hh := Lib.hid h
  obtain ⟨lv, hb, _⟩ := h.row
  have c0 := cell_of_blk (o := 0) hb rfl
  clear hb h
  go_enter Tryd.func28, Tryd.ntmps28
  go_wp2_with fail
  refine (pnone_any _ _ _ _ hh.out).mono ?_
  rintro e w' ⟨rfl, rfl⟩
  go_wp2_with fail
  go_ret
  exact ⟨rfl, rfl⟩

theorem ptop_any (p : Nat) (base : Int) (xs : List EV) (w : World) (h : Pp F w p base xs) (hb : 0 ≤ base ∧ base ≤ 1152921504606846976) :
    Calls Tryd.prog 29 #[.pointer (some ⟨p, 0, none⟩)] w fun e w' => e = .returned (.int .i64 (base + xs.length)) ∧ ∃ n, w' = w.drewN n := by
  have hh := Lib.hid h
  have hfew := h.few
  obtain ⟨lv, hh0, hp⟩ := h.row
  obtain ⟨a, c, rfl, _⟩ := hp.cells
  have c0 := cell_of_blk (o := 0) hh0 rfl
  have c1 := cell_of_blk (o := 1) hh0 rfl
  have hwr : IntKind.i64.wrap (base + (xs.length : Int)) = base + (xs.length : Int) := by rw [IntKind.wrap_i64]; omega
  clear hh0 h hp
  go_enter Tryd.func29, Tryd.ntmps29
  go_wp2_with fail
  refine (pnone_any _ _ _ _ hh.out).mono ?_
  rintro e w' ⟨rfl, rfl⟩
  go_wp2_with fail
  go_region
  go_wp2_with fail
  go_ret
  exact ⟨rfl, 1, rfl⟩

def PlacePost (base : Int) (n : Nat) (op : Int) (w : World) (e : Ending) (w' : World) : Prop :=
  (∃ m, w' = w.drewN m) ∧ ((base ≤ op ∧ op ≤ base + n ∧ e = .returned (.tuple #[.int .i64 (op - base), .int .i64 0])) ∨ ((op < base ∨ base + n < op) ∧ e = .returned (.tuple #[.int .i64 0, .int .i64 9])))

set_option maxHeartbeats 1000000 in
theorem pplace_any (p : Nat) (base op : Int) (xs : List EV) (w : World) (h : Pp F w p base xs) (hb : 0 ≤ base ∧ base ≤ 1152921504606846976) (ho : -9223372036854775808 ≤ op ∧ op ≤ 9223372036854775807) :
    Calls Tryd.prog 45 #[.pointer (some ⟨p, 0, none⟩), .int .i64 op] w (PlacePost base xs.length op w) := by
  have hh := Lib.hid h
  have hfew := h.few
  obtain ⟨lv, hh0, hp⟩ := h.row
  have c0 := cell_of_blk (o := 0) hh0 rfl
  clear hh0 hp h
  by_cases h1 : op < base
  · have hpost := Lib.hid (show ∀ w', (∃ m, w' = w.drewN m) → PlacePost base xs.length op w (.returned (.tuple #[.int .i64 0, .int .i64 9])) w' from fun w' hw => ⟨hw, .inr ⟨.inl h1, rfl⟩⟩)
    go_enter Tryd.func45, Tryd.ntmps45
    go_wp2_with fail
    refine (pnone_any _ _ _ _ hh.out).mono ?_
    rintro e w' ⟨rfl, rfl⟩
    go_wp2_with fail
    go_ret2
    exact hpost.out _ ⟨0, rfl⟩
  · by_cases h2 : base + xs.length < op
    · have hpost := Lib.hid (show ∀ w', (∃ m, w' = w.drewN m) → PlacePost base xs.length op w (.returned (.tuple #[.int .i64 0, .int .i64 9])) w' from fun w' hw => ⟨hw, .inr ⟨.inr h2, rfl⟩⟩)
      go_enter Tryd.func45, Tryd.ntmps45
      go_wp2_with fail
      refine (pnone_any _ _ _ _ hh.out).mono ?_
      rintro e w' ⟨rfl, rfl⟩
      go_wp2_with fail
      refine (ptop_any _ _ _ _ hh.out hb).mono ?_
      rintro e w' ⟨rfl, n, rfl⟩
      go_wp2_with fail
      go_ret2
      exact hpost.out _ ⟨n, rfl⟩
    · have hpost := Lib.hid (show ∀ w', (∃ m, w' = w.drewN m) → PlacePost base xs.length op w (.returned (.tuple #[.int .i64 (op - base), .int .i64 0])) w' from fun w' hw => ⟨hw, .inl ⟨by omega, by omega, rfl⟩⟩)
      have hwr : IntKind.i64.wrap (op - base) = op - base := by rw [IntKind.wrap_i64]; omega
      go_enter Tryd.func45, Tryd.ntmps45
      go_wp2_with fail
      refine (pnone_any _ _ _ _ hh.out).mono ?_
      rintro e w' ⟨rfl, rfl⟩
      go_wp2_with fail
      refine (ptop_any _ _ _ _ hh.out hb).mono ?_
      rintro e w' ⟨rfl, n, rfl⟩
      go_wp2_with fail
      go_ret2
      exact hpost.out _ ⟨n, rfl⟩

theorem Sl.takek {w : World} {a : Option Addr} {n c k : Nat} {cs : List Value} (h : Sl w (.slice a n c) k n cs) (m : Nat) (hm : m ≤ n) : Sl w (.slice a m m) k m (cs.take (m * k)) := by
  obtain ⟨ao, cap, e, h1, h2, h3, h4⟩ := h
  injection e with e1 e2 e3
  subst e1; subst e3
  refine ⟨a, m, rfl, Nat.le_refl _, ?_, fun ha => by have := h3 ha; omega, fun h0 => ?_⟩
  · rw [List.length_take, h2]
    have := Nat.mul_le_mul_right k hm
    omega
  · obtain ⟨g, off, rfl, hg, hc⟩ := h4 (by omega)
    refine ⟨g, off, rfl, hg, fun j u hj => hc j u ?_⟩
    rw [List.getElem?_take] at hj
    split at hj
    · exact hj
    · cases hj
theorem Sl.dropk {w : World} {a : Option Addr} {n c k : Nat} {cs : List Value} (h : Sl w (.slice a n c) k n cs) (m : Nat) (hm : m ≤ n) : Sl w (.slice (if n = m then a else a.map (·.add (m * k))) (n - m) (n - m)) k (n - m) (cs.drop (m * k)) := by
  obtain ⟨ao, cap, e, h1, h2, h3, h4⟩ := h
  injection e with e1 e2 e3
  subst e1; subst e3
  refine ⟨_, n - m, rfl, Nat.le_refl _, ?_, fun ha => ?_, fun h0 => ?_⟩
  · rw [List.length_drop, h2, Nat.sub_mul]
  · split at ha
    · omega
    · cases a with
      | none => have := h3 rfl; omega
      | some a => cases ha
  · have hnm : ¬ n = m := by omega
    obtain ⟨g, off, rfl, hg, hc⟩ := h4 (by omega)
    refine ⟨g, off + m * k, ?_, hg, fun j u hj => ?_⟩
    · rw [if_neg hnm]; simp [Addr.add]
    · rw [Nat.add_assoc]
      exact hc _ u (by rw [List.getElem?_drop] at hj; exact hj)
theorem EV.cells_length (x : EV) : x.cells.length = 7 := rfl
theorem entc_cons (x : EV) (xs : List EV) : entc (x :: xs) = x.cells ++ entc xs := List.flatMap_cons
theorem entc_take (xs : List EV) (m : Nat) : entc (xs.take m) = (entc xs).take (m * 7) := by
  induction xs generalizing m with
  | nil => simp [entc]
  | cons x xs ih =>
    cases m with
    | zero => simp [entc]
    | succ m =>
      rw [List.take_succ_cons, entc_cons, entc_cons, ih, List.take_append, EV.cells_length, List.take_of_length_le (l := x.cells) (by rw [EV.cells_length]; omega), show (m + 1) * 7 - 7 = m * 7 by omega]
theorem entc_drop (xs : List EV) (m : Nat) : entc (xs.drop m) = (entc xs).drop (m * 7) := by
  induction xs generalizing m with
  | nil => simp [entc]
  | cons x xs ih =>
    cases m with
    | zero => simp [entc]
    | succ m =>
      rw [List.drop_succ_cons, entc_cons, ih, List.drop_append, EV.cells_length, List.drop_of_length_le (l := x.cells) (by rw [EV.cells_length]; omega), List.nil_append, show (m + 1) * 7 - 7 = m * 7 by omega]

theorem vblk_same (a : Option Addr) (n c n' c' : Nat) : vblk (.slice a n c) = vblk (.slice a n' c') := by cases a <;> rfl
theorem PEnts.take {w : World} {a : Option Addr} {c : Nat} {xs : List EV} (h : PEnts F w (.slice a xs.length c) xs) (m : Nat) (hm : m ≤ xs.length) : PEnts F w (.slice a m m) (xs.take m) := by
  have e : (xs.take m).length = m := by rw [List.length_take]; omega
  refine ⟨?_, fun b n c he h0 => ?_, fun x hx => (vblk_same a xs.length c m m) ▸ h.lines x (List.mem_of_mem_take hx), .inr ⟨_, _, rfl⟩⟩
  · rw [e, entc_take]; exact h.sl.takek m hm
  · injection he with e1 e2 e3
    subst e1
    exact h.mem _ _ _ rfl (by omega)
theorem add_block (a : Addr) (k : Nat) : (a.add k).block = a.block := by unfold Addr.add; split <;> rfl
theorem vblk_add (a : Option Addr) (n c n' c' k : Nat) : vblk (.slice (a.map (·.add k)) n c) = vblk (.slice a n' c') := by cases a <;> simp [vblk, add_block]
theorem PEnts.drop {w : World} {a : Option Addr} {c : Nat} {xs : List EV} (h : PEnts F w (.slice a xs.length c) xs) (m : Nat) (hm : m ≤ xs.length) : PEnts F w (.slice (if xs.length = m then a else a.map (·.add (m * 7))) (xs.length - m) (xs.length - m)) (xs.drop m) := by
  have e : (xs.drop m).length = xs.length - m := List.length_drop
  have hv : vblk (.slice (if xs.length = m then a else a.map (·.add (m * 7))) (xs.length - m) (xs.length - m)) = vblk (.slice a xs.length c) := by
    split
    · exact vblk_same ..
    · exact vblk_add ..
  refine ⟨?_, fun b n c he h0 => ?_, fun x hx => ?_, .inr ⟨_, _, rfl⟩⟩
  · rw [e, entc_drop]; exact h.sl.dropk m hm
  · injection he with e1 e2 e3
    split at e1
    · omega
    · cases a with
      | none => cases e1
      | some a =>
        injection e1 with e1
        subst e1
        have := h.mem a _ _ rfl (by omega)
        simpa [add_block] using this
  · rw [hv]; exact h.lines x (List.mem_of_mem_drop hx)

theorem elemEnt : Tryd.prog.elem 35 = 34 := by kernel_rfl
theorem sizeEnt (w : World) : (sizeOf (Tryd.prog.elem 35)).run Tryd.prog w = .ok 7 w := by
  obtain ⟨i0, hi, _, hz1, _⟩ := info_parts Tryd.infoEnt
  rw [elemEnt]
  simp [sizeOf, typeInfo, hi, hz1]
theorem undEnt : Tryd.prog.underlying 35 = some (.slice (Tryd.prog.elem 35)) := by rw [elemEnt]; exact Tryd.underlying35
theorem run_cut3 (a : Option Addr) (n c m : Nat) (hm : m ≤ c) (w : World) : (Instr.slice 35 (.slice a n c) none (some (.int .i64 (m : Int))) (some (.int .i64 (m : Int)))).run Tryd.prog w = .ok (.slice a m m) w := by
  rw [run_slice_hm w 35 a n c undEnt .i64 .i64 m m (by omega) (by omega) (by omega), sizeEnt]
  have : Option.map (fun x : Addr => x.add 0) a = a := by cases a <;> simp [Addr.add]
  simp [Result.andThen, sliced, this]
theorem run_trim3 (a : Option Addr) (n c m : Nat) (hm : m ≤ n) (hc : n ≤ c) (w : World) : (Instr.slice 35 (.slice a n c) (some (.int .i64 (m : Int))) (some (.int .i64 (n : Int))) (some (.int .i64 (n : Int)))).run Tryd.prog w = .ok (.slice (if n = m then a else a.map (·.add (m * 7))) (n - m) (n - m)) w := by
  rw [run_slice_lhm w 35 a n c undEnt .i64 .i64 .i64 m n n (by omega) (by omega) (by omega) (by omega), sizeEnt]
  simp [Result.andThen, sliced]

/-- What a call that turns the pipe alone comes to. -/
def TurnPost (F : Nat → Prop) (w : World) (p : Nat) (x base' : Int) (xs' : List EV) (e : Ending) (w' : World) : Prop := e = .returned (.int .i64 x) ∧ Pp F w' p base' xs' ∧ Fr (one p) w w'

theorem Pp.set {w : World} {p : Nat} {base b' : Int} {xs xs' : List EV} {lv' : Value} {w' : World} (h : Pp F w p base xs) (f : Fr (one p) w w') (hb : w'.heap[p]? = some (.cells #[.int .i64 b', lv', .bool true] 67 (0, 0))) (he : PEnts F w lv' xs') (hl : xs'.length ≤ 24) (hw : ∀ x ∈ xs', x.e.wf) : Pp F w' p b' xs' :=
  ⟨⟨lv', hb, he.keep f (fun b hb _ e => h.np (e ▸ hb))⟩, h.np, hl, hw⟩

set_option maxHeartbeats 1000000 in
theorem pcut_any (p : Nat) (base op : Int) (xs : List EV) (w : World) (h : Pp F w p base xs) (hb : 0 ≤ base ∧ base ≤ 1152921504606846976) (ho : -9223372036854775808 ≤ op ∧ op ≤ 9223372036854775807) :
    Calls Tryd.prog 24 #[.pointer (some ⟨p, 0, none⟩), .int .i64 op] w fun e w' => ((base ≤ op ∧ op ≤ base + xs.length) ∧ TurnPost F w p 0 base (xs.take (op - base).toNat) e w') ∨ ((op < base ∨ base + xs.length < op) ∧ TurnPost F w p 9 base xs e w') := by
  have H := Lib.hid h
  obtain ⟨lv, hh, hp⟩ := h.row
  obtain ⟨a, c, rfl, hc⟩ := hp.cells
  have hhh := Lib.hid hh
  have hph := Lib.hid hp
  clear hh hp h
  have hpost : Hid (∀ (e : Ending) w', (((base ≤ op ∧ op ≤ base + xs.length) ∧ TurnPost F w p 0 base (xs.take (op - base).toNat) e w') ∨ ((op < base ∨ base + xs.length < op) ∧ TurnPost F w p 9 base xs e w')) → (((base ≤ op ∧ op ≤ base + xs.length) ∧ TurnPost F w p 0 base (xs.take (op - base).toNat) e w') ∨ ((op < base ∨ base + xs.length < op) ∧ TurnPost F w p 9 base xs e w'))) := Lib.hid (fun _ _ h => h)
  go_enter Tryd.func24, Tryd.ntmps24
  go_wp2_with fail
  refine (pplace_any _ _ _ _ _ H.out hb ho).mono ?_
  rintro e w' ⟨⟨n, rfl⟩, ⟨h1, h2, rfl⟩ | ⟨h1, rfl⟩⟩
  · obtain ⟨m, hm⟩ : ∃ m : Nat, op - base = m := ⟨(op - base).toNat, by omega⟩
    have hml : m ≤ xs.length := by omega
    have hmh := Lib.hid hm
    have h12 := Lib.hid (And.intro h1 h2)
    rw [hm]
    have hr := run_cut3 a xs.length c m (by omega)
    have c1 : (w.drewN n).cell? ⟨p, 1, none⟩ = some (.slice a xs.length c) := by rw [drewN_cell]; exact cell_of_blk (o := 1) hhh.out rfl
    have z1 : (w.drewN n).frozen? ⟨p, 1, none⟩ = false := free_of_blk (o := 1) (blk_drewN.trans hhh.out)
    obtain ⟨w1, hw1⟩ : ∃ w1, w1 = w.drewN n := ⟨_, rfl⟩
    rw [← hw1] at c1 z1 ⊢
    have hw1h := Lib.hid hw1
    clear hm h1 h2 hw1
    go_wp2_with fail
    go_ret
    have f0 : Fr none' w w1 := by rw [hw1h.out]; exact (Fr.refl _ _).drewN n
    have f1 : Fr (one p) w1 (w1.setCell ⟨p, 1, none⟩ (.slice a m m)) := (Fr.refl _ _).set1 _
    have q1 := f0.blk hhh.out id
    refine .inl ⟨h12.out, rfl, ?_, (f0.mono (fun _ _ h => h.elim)).trans f1 (fun _ _ h => h)⟩
    rw [hmh.out, Int.toNat_natCast]
    exact (H.out.keep0 f0).set f1 (by rw [blk_set_at q1 rfl]; rfl) ((hph.out.keep f0 (fun _ _ _ h => h)).take m hml) (by rw [List.length_take]; have := H.out.few; omega) (fun x hx => H.out.wf x (List.mem_of_mem_take hx))
  · have h1h := Lib.hid h1
    clear h1
    go_wp2_with fail
    go_ret
    exact .inr ⟨h1h.out, rfl, H.out.keep0 ((Fr.refl _ _).drewN n), (Fr.refl _ _).drewN n⟩

end Go.Proofs.YtmhicplhfbnpaaaDoor
