/-
  A small kit of words for this project: 'Fr S w w'' (what a call may have turned: of the blocks that were there, those of S alone), and the laws by which a block is read behind stores, new blocks and draws. No program in it.
-/
import Derived.WalkKit
import Derived.WalkSpells
import Derived.WalkLawsBesides
import Derived.Deep.QuietTactic
import Derived.BigQuiet
import Derived.Lib.Hide
namespace Go.Proofs.YtmhicplhfbnpaaaDoor
set_option linter.unusedVariables false
open Go.RowKit

/-- An object behind a store. -/
def putObj (a : Addr) (v : Value) : Obj → Obj
  | .cells c elem frozen => .cells (if a.spot.isSome then c else c.setIfInBounds a.off v) elem frozen
  | o => o

theorem blk_alloc_old {w : World} {o : Obj} {k : Nat} (h : k < w.heap.size) : (w.alloc o).heap[k]? = w.heap[k]? := by
  show (w.heap.push o)[k]? = _
  rw [Array.getElem?_push, if_neg (by omega)]
theorem blk_alloc_new {w : World} {o : Obj} {k : Nat} (h : k = w.heap.size) : (w.alloc o).heap[k]? = some o := by
  show (w.heap.push o)[k]? = _
  rw [Array.getElem?_push, if_pos h]
theorem blk_set_other {w : World} {a : Addr} {v : Value} {k : Nat} (h : k ≠ a.block) : (w.setCell a v).heap[k]? = w.heap[k]? := by
  show (w.heap.modify a.block _)[k]? = _
  rw [Array.getElem?_modify, if_neg (fun e => h e.symm)]
theorem blk_set_same {w : World} {a : Addr} {v : Value} {k : Nat} (h : k = a.block) : (w.setCell a v).heap[k]? = (w.heap[k]?).map (putObj a v) := by
  subst h
  show (w.heap.modify a.block _)[a.block]? = _
  rw [Array.getElem?_modify, if_pos rfl]
  rfl
theorem blk_set_at {w : World} {b o : Nat} {v : Value} {k : Nat} {c : Array Value} {t : TypeId} {fz : Nat × Nat} (hb : w.heap[k]? = some (.cells c t fz)) (h : k = b) :
    (w.setCell ⟨b, o, none⟩ v).heap[k]? = some (.cells (c.setIfInBounds o v) t fz) := by
  rw [blk_set_same h, hb]; rfl
theorem blk_drew {w : World} {k : Nat} : w.drew.heap[k]? = w.heap[k]? := rfl
theorem blk_drewN {w : World} {n k : Nat} : (w.drewN n).heap[k]? = w.heap[k]? := by
  induction n generalizing w with
  | zero => rfl
  | succ n ih => exact ih

theorem lt_of_blk {w : World} {b : Nat} {o : Obj} (h : w.heap[b]? = some o) : b < w.heap.size := by
  rcases Nat.lt_or_ge b w.heap.size with h' | h'
  · exact h'
  · simp [Array.getElem?_eq_none h'] at h

theorem cell_of_blk {w : World} {b o : Nat} {c : Array Value} {t : TypeId} {fz : Nat × Nat} {v : Value} (h : w.heap[b]? = some (.cells c t fz)) (hv : c[o]? = some v) : w.cell? ⟨b, o, none⟩ = some v := by
  simp [World.cell?, h, hv]
theorem free_of_blk {w : World} {b o : Nat} {c : Array Value} {t : TypeId} (h : w.heap[b]? = some (.cells c t (0, 0))) : w.frozen? ⟨b, o, none⟩ = false := by
  simp [World.frozen?, h]

/-- What a call may have turned: of the blocks that were there, those of S alone. -/
structure Fr (S : Nat → Prop) (w w' : World) : Prop where
  os : w'.os = w.os
  tape : w'.tape = w.tape
  output : w'.output = w.output
  size : w.heap.size ≤ w'.heap.size
  block : ∀ k, k < w.heap.size → ¬ S k → w'.heap[k]? = w.heap[k]?

def two (a b : Nat) : Nat → Prop := fun k => k = a ∨ k = b
def none' : Nat → Prop := fun _ => False
def one (b : Nat) : Nat → Prop := fun k => k = b

theorem Fr.refl (S : Nat → Prop) (w : World) : Fr S w w := ⟨rfl, rfl, rfl, Nat.le_refl _, fun _ _ _ => rfl⟩
theorem Fr.trans {S : Nat → Prop} {a b c : World} (h : Fr S a b) {S' : Nat → Prop} (k : Fr S' b c) (hs : ∀ i, i < a.heap.size → S' i → S i) : Fr S a c :=
  ⟨k.os.trans h.os, k.tape.trans h.tape, k.output.trans h.output, Nat.le_trans h.size k.size, fun i hi hn => (k.block i (Nat.lt_of_lt_of_le hi h.size) (fun e => hn (hs i hi e))).trans (h.block i hi hn)⟩
theorem Fr.mono {S S' : Nat → Prop} {w w' : World} (h : Fr S w w') (hs : ∀ i, i < w.heap.size → S i → S' i) : Fr S' w w' := ⟨h.os, h.tape, h.output, h.size, fun k hk hn => h.block k hk (fun e => hn (hs k hk e))⟩
theorem Fr.drew {S : Nat → Prop} {a w : World} (h : Fr S a w) : Fr S a w.drew := ⟨h.os, h.tape, h.output, h.size, h.block⟩
theorem drewN_os (w : World) (n : Nat) : (w.drewN n).os = w.os ∧ (w.drewN n).tape = w.tape ∧ (w.drewN n).output = w.output ∧ (w.drewN n).heap = w.heap := by
  induction n generalizing w with
  | zero => exact ⟨rfl, rfl, rfl, rfl⟩
  | succ n ih => exact ih w.drew
theorem Fr.drewN {S : Nat → Prop} {a w : World} (h : Fr S a w) (n : Nat) : Fr S a (w.drewN n) := by
  obtain ⟨h1, h2, h3, h4⟩ := drewN_os w n
  exact ⟨h1.trans h.os, h2.trans h.tape, h3.trans h.output, by rw [h4]; exact h.size, fun k hk hn => by rw [h4]; exact h.block k hk hn⟩
theorem Fr.alloc {S : Nat → Prop} {a w : World} (h : Fr S a w) (o : Obj) : Fr S a (w.alloc o) :=
  ⟨h.os, h.tape, h.output, by have := h.size; simp; omega, fun k hk hn => (blk_alloc_old (by have := h.size; omega)).trans (h.block k hk hn)⟩
theorem Fr.setCell {S : Nat → Prop} {a w : World} (h : Fr S a w) (p : Addr) (u : Value) (hp : a.heap.size ≤ p.block ∨ S p.block) : Fr S a (w.setCell p u) :=
  ⟨h.os, h.tape, h.output, by have := h.size; simp; omega, fun k hk hn => (blk_set_other (by rintro rfl; rcases hp with hp | hp; exact absurd hk (by omega); exact hn hp)).trans (h.block k hk hn)⟩
theorem Fr.set1 {b o : Nat} {a w : World} (h : Fr (one b) a w) (v : Value) : Fr (one b) a (w.setCell ⟨b, o, none⟩ v) := h.setCell _ _ (.inr rfl)
theorem Fr.ofDrew {S : Nat → Prop} {a w : World} (h : Fr S a.drew w) : Fr S a w := ⟨h.os, h.tape, h.output, h.size, h.block⟩
theorem Fr.grown {S : Nat → Prop} {a w w' : World} {row : Option Nat} (h : Fr S a w) (hg : w.grownBy w' row) (hr : ∀ k, row = some k → a.heap.size ≤ k ∨ S k) : Fr S a w' :=
  ⟨hg.os.trans h.os, hg.tape.trans h.tape, hg.output.trans h.output, Nat.le_trans h.size hg.size, fun k hk hn => (hg.block k (by have := h.size; omega) (fun e => by rcases hr k e.symm with h' | h'; omega; exact hn h')).trans (h.block k hk hn)⟩
theorem Fr.below {S : Nat → Prop} {B : Nat} {a w : World} (h : Fr S a w) (hB : B ≤ a.heap.size) (hs : ∀ i, S i → B ≤ i) : Below B a w :=
  ⟨h.os, h.tape, h.output, h.size, fun k hk => h.block k (by omega) (fun e => by have := hs k e; omega)⟩
theorem Fr.of_below {a w : World} (h : Below a.heap.size a w) : Fr none' a w := ⟨h.os, h.tape, h.output, h.size, fun k hk _ => h.block k hk⟩
theorem Fr.of_belowB {B : Nat} {a w : World} (h : Below B a w) : Fr (fun k => B ≤ k) a w := ⟨h.os, h.tape, h.output, h.size, fun k hk hn => h.block k (by omega)⟩
theorem Fr.blk {S : Nat → Prop} {a w : World} (h : Fr S a w) {k : Nat} {o : Obj} (ho : a.heap[k]? = some o) (hn : ¬ S k) : w.heap[k]? = some o := (h.block k (lt_of_blk ho) hn).trans ho
theorem Fr.cell {S : Nat → Prop} {a w : World} (h : Fr S a w) {p : Addr} (hp : p.block < a.heap.size) (hn : ¬ S p.block) : w.cell? p = a.cell? p := World.cell?_of_block (w := a) (h.block p.block hp hn)
theorem Fr.frozen {S : Nat → Prop} {a w : World} (h : Fr S a w) {p : Addr} (hp : p.block < a.heap.size) (hn : ¬ S p.block) : w.frozen? p = a.frozen? p := World.frozen?_of_block (w := a) (h.block p.block hp hn)

end Go.Proofs.YtmhicplhfbnpaaaDoor
