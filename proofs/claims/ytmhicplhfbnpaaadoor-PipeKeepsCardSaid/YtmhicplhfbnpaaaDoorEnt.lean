/-
  Lines and entries as data, and how they lie in memory, in blocks of a set F. No program in it.
-/
import Derived.Test.YtmhicplhfbnpaaaDoorSl
namespace Go.Proofs.YtmhicplhfbnpaaaDoor
set_option linter.unusedVariables false
open Go.RowKit

/-- Its memory lies in F. -/
def In (F : Nat → Prop) (v : Value) : Prop := ∀ a n c, v = .slice (some a) n c → 0 < n → F a.block
theorem In.none (F : Nat → Prop) (n c : Nat) : In F (.slice Option.none n c) := fun _ _ _ h => by cases h
theorem In.zero (F : Nat → Prop) (a : Option Addr) (c : Nat) : In F (.slice a 0 c) := fun _ _ _ h h0 => by injection h with h1 h2; omega
theorem In.mono {F G : Nat → Prop} {v : Value} (h : In F v) (hs : ∀ b, F b → G b) : In G v := fun a n c he h0 => hs _ (h a n c he h0)
/-- It lies in F, and its blocks are there. -/
theorem In.live {F : Nat → Prop} {w : World} {v : Value} {k n : Nat} {cs : List Value} (h : In F v) (hk : 0 < k) (hs : Sl w v k n cs) : In (fun b => F b ∧ b < w.heap.size) v := fun a m c he h0 => by
  refine ⟨h a m c he h0, ?_⟩
  obtain ⟨ao, cap, e, _, _, _, h4⟩ := hs
  subst e
  injection he with e1 e2 e3
  subst e2
  obtain ⟨g, off, e4, h5, _⟩ := h4 h0
  rw [e1] at e4
  injection e4 with e4
  subst e4
  exact h5 hk
theorem In.own {w : World} {base e k n : Nat} {v : Value} {cs : List Value} (h : w.ownsRow base e k v n cs) : In (fun b => base ≤ b ∧ b < w.heap.size) v := fun a n c he _ => by
  subst he
  obtain ⟨_, h⟩ := h
  rcases h with ⟨h, _⟩ | ⟨g, cap, cur, h, hg, hh, _⟩
  · cases h
  · injection h with h1
    injection h1 with h1
    subst h1
    exact ⟨hg, lt_of_blk hh⟩
theorem In.ownBlock {w : World} {base e k n : Nat} {v : Value} {cs : List Value} (h : w.ownsRow base e k v n cs) : In (fun b => v.ownBlock = some b) v := fun a n c he _ => by
  subst he
  obtain ⟨_, h⟩ := h
  rcases h with ⟨h, _⟩ | ⟨g, cap, cur, h, hg, hh, _⟩
  · cases h
  · injection h with h1
    injection h1 with h1
    subst h1
    rfl

theorem Sl.keepIn {w w' : World} {F S : Nat → Prop} {v : Value} {k n : Nat} {cs : List Value} (h : Sl w v k n cs) (hi : In F v) (f : Fr S w w') (hS : ∀ b, F b → b < w.heap.size → ¬ S b) : Sl w' v k n cs := by
  obtain ⟨ao, cap, rfl, h1, h2, h3, h4⟩ := h
  refine ⟨ao, cap, rfl, h1, h2, h3, fun hn => ?_⟩
  obtain ⟨g, off, rfl, hg, hc⟩ := h4 hn
  refine ⟨g, off, rfl, fun hk => Nat.lt_of_lt_of_le (hg hk) f.size, fun j u hj => ?_⟩
  have hk : 0 < k := by
    rcases Nat.eq_zero_or_pos k with rfl | hk
    · rw [Nat.mul_zero] at h2
      rw [List.eq_nil_of_length_eq_zero h2] at hj; cases hj
    · exact hk
  rw [f.cell (p := ⟨g, off + j, none⟩) (hg hk) (hS g (hi _ _ _ rfl hn) (hg hk))]
  exact hc j u hj

theorem flatMap_get {X : Type} (En : X → List Value) (k : Nat) (hk : 0 < k) : ∀ (xs : List X), (∀ x ∈ xs, (En x).length = k) → ∀ i (hi : i < xs.length) o (u : Value), (En xs[i])[o]? = some u → (xs.flatMap En)[i * k + o]? = some u
  | [], _, i, hi, _, _, _ => absurd hi (by simp)
  | x :: xs, hx, 0, _, o, u, h => by
    have h0 := hx x (List.mem_cons_self ..)
    have ho : o < k := by
      rcases Nat.lt_or_ge o k with h' | h'
      · exact h'
      · rw [List.getElem?_eq_none (by simp only [List.getElem_cons_zero] at *; omega)] at h; cases h
    rw [List.flatMap_cons, Nat.zero_mul, Nat.zero_add, List.getElem?_append_left (by omega)]
    exact h
  | x :: xs, hx, i + 1, hi, o, u, h => by
    have h0 := hx x (List.mem_cons_self ..)
    rw [List.flatMap_cons, List.getElem?_append_right (by rw [h0, Nat.add_mul]; omega), h0, show (i + 1) * k + o - k = i * k + o by rw [Nat.add_mul]; omega]
    exact flatMap_get En k hk xs (fun y hy => hx y (List.mem_cons_of_mem _ hy)) i (by simpa using hi) o u h

/-- Element i of a slice of k-celled things. -/
theorem Sl.elemk {X : Type} {w : World} {a : Option Addr} {c k : Nat} {xs : List X} {En : X → List Value} (h : Sl w (.slice a xs.length c) k xs.length (xs.flatMap En)) (hk : 0 < k) (hx : ∀ x ∈ xs, (En x).length = k) (i : Nat) (hi : i < xs.length) :
    ∃ b off, a = some ⟨b, off, none⟩ ∧ b < w.heap.size ∧ ∀ o u, (En xs[i])[o]? = some u → w.cell? ⟨b, off + (i * k + o), none⟩ = some u := by
  obtain ⟨ao, cap, e, h1, h2, h3, h4⟩ := h
  injection e with e1 e2 e3
  subst e1; subst e3
  obtain ⟨g, off, rfl, hg, hc⟩ := h4 (by omega)
  exact ⟨g, off, rfl, hg hk, fun o u hu => hc _ _ (flatMap_get En k hk xs hx i hi o u hu)⟩

/-! ### The cells of a block that is known whole -/
theorem cells5 {w : World} {b : Nat} {v0 v1 v2 v3 v4 : Value} {t : TypeId} (h : w.heap[b]? = some (.cells #[v0, v1, v2, v3, v4] t (0, 0))) :
    (w.cell? ⟨b, 0, none⟩ = some v0 ∧ w.cell? ⟨b, 1, none⟩ = some v1 ∧ w.cell? ⟨b, 2, none⟩ = some v2 ∧ w.cell? ⟨b, 3, none⟩ = some v3 ∧ w.cell? ⟨b, 4, none⟩ = some v4) ∧
    (w.frozen? ⟨b, 0, none⟩ = false ∧ w.frozen? ⟨b, 1, none⟩ = false ∧ w.frozen? ⟨b, 2, none⟩ = false ∧ w.frozen? ⟨b, 3, none⟩ = false ∧ w.frozen? ⟨b, 4, none⟩ = false) :=
  ⟨⟨cell_of_blk h rfl, cell_of_blk h rfl, cell_of_blk h rfl, cell_of_blk h rfl, cell_of_blk h rfl⟩, ⟨free_of_blk h, free_of_blk h, free_of_blk h, free_of_blk h, free_of_blk h⟩⟩
theorem cells7 {w : World} {b : Nat} {v0 v1 v2 v3 v4 v5 v6 : Value} {t : TypeId} (h : w.heap[b]? = some (.cells #[v0, v1, v2, v3, v4, v5, v6] t (0, 0))) :
    (w.cell? ⟨b, 0, none⟩ = some v0 ∧ w.cell? ⟨b, 1, none⟩ = some v1 ∧ w.cell? ⟨b, 2, none⟩ = some v2 ∧ w.cell? ⟨b, 3, none⟩ = some v3 ∧ w.cell? ⟨b, 4, none⟩ = some v4 ∧ w.cell? ⟨b, 5, none⟩ = some v5 ∧ w.cell? ⟨b, 6, none⟩ = some v6) ∧
    (w.frozen? ⟨b, 0, none⟩ = false ∧ w.frozen? ⟨b, 1, none⟩ = false ∧ w.frozen? ⟨b, 2, none⟩ = false ∧ w.frozen? ⟨b, 3, none⟩ = false ∧ w.frozen? ⟨b, 4, none⟩ = false ∧ w.frozen? ⟨b, 5, none⟩ = false ∧ w.frozen? ⟨b, 6, none⟩ = false) :=
  ⟨⟨cell_of_blk h rfl, cell_of_blk h rfl, cell_of_blk h rfl, cell_of_blk h rfl, cell_of_blk h rfl, cell_of_blk h rfl, cell_of_blk h rfl⟩, ⟨free_of_blk h, free_of_blk h, free_of_blk h, free_of_blk h, free_of_blk h, free_of_blk h, free_of_blk h⟩⟩

/-! ### Lines -/
structure Line where
  sku : ByteArray
  n : Int
  deriving DecidableEq
def Line.cells (l : Line) : List Value := [.string l.sku, .int .i64 l.n]
def linc (ls : List Line) : List Value := ls.flatMap Line.cells
theorem linc_length (ls : List Line) : (linc ls).length = ls.length * 2 := by
  induction ls with
  | nil => rfl
  | cons l ls ih => unfold linc at *; rw [List.flatMap_cons, List.length_append, ih, List.length_cons, Nat.add_mul]; simp [Line.cells]; omega
theorem linc_one (ls : List Line) : ∀ u ∈ linc ls, u.oneCell' = true := by
  intro u hu
  obtain ⟨l, _, hl⟩ := List.mem_flatMap.1 hu
  simp [Line.cells] at hl
  rcases hl with rfl | rfl <;> rfl
def Line.wf (l : Line) : Prop := l.sku.size ≤ 140737488351232 ∧ -9223372036854775808 ≤ l.n ∧ l.n ≤ 9223372036854775807

/-- v is a slice of these lines, in blocks of F. -/
structure LinesAt (F : Nat → Prop) (w : World) (v : Value) (ls : List Line) : Prop where
  sl : Sl w v 2 ls.length (linc ls)
  mem : In F v
theorem LinesAt.keep {F S : Nat → Prop} {w w' : World} {v : Value} {ls : List Line} (h : LinesAt F w v ls) (f : Fr S w w') (hS : ∀ b, F b → b < w.heap.size → ¬ S b) : LinesAt F w' v ls := ⟨h.sl.keepIn h.mem f hS, h.mem⟩
theorem LinesAt.keep0 {F : Nat → Prop} {w w' : World} {v : Value} {ls : List Line} (h : LinesAt F w v ls) (f : Fr none' w w') : LinesAt F w' v ls := h.keep f (fun _ _ _ h => h)
theorem LinesAt.mono {F G : Nat → Prop} {w : World} {v : Value} {ls : List Line} (h : LinesAt F w v ls) (hs : ∀ b, F b → G b) : LinesAt G w v ls := ⟨h.sl, h.mem.mono hs⟩
theorem LinesAt.nil (F : Nat → Prop) (w : World) : LinesAt F w (.slice none 0 0) [] := ⟨Sl.nil w 2, In.none F 0 0⟩
theorem LinesAt.cells {F : Nat → Prop} {w : World} {v : Value} {ls : List Line} (h : LinesAt F w v ls) : ∃ ao cap, v = .slice ao ls.length cap := by
  obtain ⟨ao, cap, rfl, _⟩ := h.sl
  exact ⟨ao, cap, rfl⟩
theorem LinesAt.elem {F : Nat → Prop} {w : World} {a : Option Addr} {c : Nat} {ls : List Line} (h : LinesAt F w (.slice a ls.length c) ls) (i : Nat) (hi : i < ls.length) :
    ∃ b off, a = some ⟨b, off, none⟩ ∧ b < w.heap.size ∧ w.cell? ⟨b, off + i * 2, none⟩ = some (.string ls[i].sku) ∧ w.cell? ⟨b, off + i * 2 + 1, none⟩ = some (.int .i64 ls[i].n) := by
  obtain ⟨b, off, rfl, hb, hc⟩ := Sl.elemk h.sl (by decide) (fun _ _ => rfl) i hi
  exact ⟨b, off, rfl, hb, by have := hc 0 _ rfl; simpa using this, by have := hc 1 _ rfl; rw [Nat.add_assoc]; exact this⟩

/-! ### Entries -/
structure Ent where
  client : Int
  num : Int
  kind : Int
  sku : ByteArray
  order : Int
  n : Int
  lines : List Line
  deriving DecidableEq
/-- An entry's cells; v: its lines. -/
def Ent.cells (e : Ent) (v : Value) : List Value := [.int .i64 e.client, .int .i64 e.num, .int .i64 e.kind, .string e.sku, .int .i64 e.order, .int .i64 e.n, v]
def I64 (n : Int) : Prop := -9223372036854775808 ≤ n ∧ n ≤ 9223372036854775807
structure Ent.wf (e : Ent) : Prop where
  client : I64 e.client
  num : I64 e.num
  kind : I64 e.kind
  order : I64 e.order
  n : I64 e.n
  sku : e.sku.size ≤ 140737488351232
  lines : ∀ l ∈ e.lines, l.wf
  many : e.lines.length ≤ 5864062014634

/-- An entry and the slice of its lines. -/
structure EV where
  e : Ent
  v : Value
def EV.cells (x : EV) : List Value := x.e.cells x.v
def entc (xs : List EV) : List Value := xs.flatMap EV.cells
theorem entc_length (xs : List EV) : (entc xs).length = xs.length * 7 := by
  induction xs with
  | nil => rfl
  | cons l ls ih => unfold entc at *; rw [List.flatMap_cons, List.length_append, ih, List.length_cons, Nat.add_mul]; simp [EV.cells, Ent.cells]; omega

/-- v is a slice of these entries, in blocks of F. -/
structure EntsAt (F : Nat → Prop) (w : World) (v : Value) (xs : List EV) : Prop where
  sl : Sl w v 7 xs.length (entc xs)
  mem : In F v
  lines : ∀ x ∈ xs, LinesAt F w x.v x.e.lines
theorem EntsAt.keep {F S : Nat → Prop} {w w' : World} {v : Value} {xs : List EV} (h : EntsAt F w v xs) (f : Fr S w w') (hS : ∀ b, F b → b < w.heap.size → ¬ S b) : EntsAt F w' v xs := ⟨h.sl.keepIn h.mem f hS, h.mem, fun x hx => (h.lines x hx).keep f hS⟩
theorem EntsAt.keep0 {F : Nat → Prop} {w w' : World} {v : Value} {xs : List EV} (h : EntsAt F w v xs) (f : Fr none' w w') : EntsAt F w' v xs := h.keep f (fun _ _ _ h => h)
theorem EntsAt.mono {F G : Nat → Prop} {w : World} {v : Value} {xs : List EV} (h : EntsAt F w v xs) (hs : ∀ b, F b → G b) : EntsAt G w v xs := ⟨h.sl, h.mem.mono hs, fun x hx => (h.lines x hx).mono hs⟩
theorem EntsAt.nil (F : Nat → Prop) (w : World) : EntsAt F w (.slice none 0 0) [] := ⟨Sl.nil w 7, In.none F 0 0, fun _ h => by cases h⟩
theorem EntsAt.cells {F : Nat → Prop} {w : World} {v : Value} {xs : List EV} (h : EntsAt F w v xs) : ∃ ao cap, v = .slice ao xs.length cap := by
  obtain ⟨ao, cap, rfl, _⟩ := h.sl
  exact ⟨ao, cap, rfl⟩
theorem EntsAt.one {F : Nat → Prop} {w : World} {v : Value} {xs : List EV} (h : EntsAt F w v xs) : ∀ u ∈ entc xs, u.oneCell' = true := by
  intro u hu
  obtain ⟨l, hm, hl⟩ := List.mem_flatMap.1 hu
  obtain ⟨ao, cap, e⟩ := (h.lines l hm).cells
  simp [EV.cells, Ent.cells] at hl
  rcases hl with rfl | rfl | rfl | rfl | rfl | rfl | rfl <;> first | rfl | (rw [e]; rfl)
/-- The cells of element i. -/
structure EntCell (w : World) (b o : Nat) (x : EV) : Prop where
  c0 : w.cell? ⟨b, o, none⟩ = some (.int .i64 x.e.client)
  c1 : w.cell? ⟨b, o + 1, none⟩ = some (.int .i64 x.e.num)
  c2 : w.cell? ⟨b, o + 2, none⟩ = some (.int .i64 x.e.kind)
  c3 : w.cell? ⟨b, o + 3, none⟩ = some (.string x.e.sku)
  c4 : w.cell? ⟨b, o + 4, none⟩ = some (.int .i64 x.e.order)
  c5 : w.cell? ⟨b, o + 5, none⟩ = some (.int .i64 x.e.n)
  c6 : w.cell? ⟨b, o + 6, none⟩ = some x.v
theorem EntsAt.elem {F : Nat → Prop} {w : World} {a : Option Addr} {c : Nat} {xs : List EV} (h : EntsAt F w (.slice a xs.length c) xs) (i : Nat) (hi : i < xs.length) :
    ∃ b off, a = some ⟨b, off, none⟩ ∧ b < w.heap.size ∧ F b ∧ EntCell w b (off + i * 7) xs[i] := by
  obtain ⟨b, off, rfl, hb, hc⟩ := Sl.elemk h.sl (by decide) (fun _ _ => rfl) i hi
  refine ⟨b, off, rfl, hb, h.mem _ _ _ rfl (by omega), ?_⟩
  refine ⟨?_, ?_, ?_, ?_, ?_, ?_, ?_⟩
  · have := hc 0 _ rfl; simpa using this
  all_goals rw [Nat.add_assoc]; exact hc _ _ rfl

end Go.Proofs.YtmhicplhfbnpaaaDoor
