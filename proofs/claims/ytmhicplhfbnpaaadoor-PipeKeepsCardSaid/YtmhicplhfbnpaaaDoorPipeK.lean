/-
  PipeKeeps: the row of one's own, and what holds in each round.
-/
import Derived.Test.YtmhicplhfbnpaaaDoorPipeO
namespace Go.Proofs.YtmhicplhfbnpaaaDoor
set_option linter.unusedVariables false
set_option linter.unusedSimpArgs false
open Go.RowKit

theorem entc_evOf (es : List Ent) : entc (es.map evOf) = es.flatMap fun e => (evOf e).cells := by unfold entc; rw [List.flatMap_map]
theorem entc_length' (es : List Ent) : (entc (es.map evOf)).length = es.length * 7 := by rw [entc_length, List.length_map]

/-- A row of the call's own, of entries without lines. -/
structure Ow (B : Nat) (w : World) (v : Value) (es : List Ent) : Prop where
  own : w.ownsRow B 34 7 v es.length (entc (es.map evOf))
  nil : ∀ e ∈ es, e.lines = []
theorem Ow.ents {B : Nat} {w : World} {v : Value} {es : List Ent} (h : Ow B w v es) : EntsAt (fun b => v.ownBlock = some b) w v (es.map evOf) :=
  ⟨by rw [List.length_map]; exact Sl.of_own h.own, In.ownBlock h.own, fun x hx => by
    obtain ⟨e, he, rfl⟩ := List.mem_map.1 hx
    show LinesAt _ w (.slice none 0 0) e.lines
    rw [h.nil e he]
    exact LinesAt.nil _ _⟩
theorem Ow.none (B : Nat) (w : World) : Ow B w (.slice Option.none 0 0) [] := ⟨World.ownsRow_nil _ _ _ _, fun _ h => by cases h⟩
theorem Ow.keep {B : Nat} {S : Nat → Prop} {w w' : World} {v : Value} {es : List Ent} (h : Ow B w v es) (f : Fr S w w') (hS : ∀ b, v.ownBlock = some b → ¬ S b) : Ow B w' v es := ⟨ownsRow_keep h.own f hS, h.nil⟩
theorem Ow.keep0 {B : Nat} {w w' : World} {v : Value} {es : List Ent} (h : Ow B w v es) (f : Fr none' w w') : Ow B w' v es := h.keep f (fun _ _ h => h)
theorem Ow.lt {B : Nat} {w : World} {v : Value} {es : List Ent} (h : Ow B w v es) : ∀ g, v.ownBlock = some g → B ≤ g ∧ g < w.heap.size := ownsRow_block h.own
theorem Ow.cells {B : Nat} {w : World} {v : Value} {es : List Ent} (h : Ow B w v es) : ∃ a c, v = .slice a es.length c ∧ es.length ≤ c := by
  rcases h.own.2 with ⟨e, h0⟩ | ⟨g, c, cur, e, _, _, hc, _⟩
  · exact ⟨Option.none, 0, by rw [e, h0], by omega⟩
  · exact ⟨_, c, e, hc⟩
theorem entc_evOf_take (es : List Ent) (m : Nat) : entc ((es.take m).map evOf) = (entc (es.map evOf)).take (m * 7) := by rw [List.map_take, entc_take]
theorem entc_evOf_drop (es : List Ent) (m : Nat) : entc ((es.drop m).map evOf) = (entc (es.map evOf)).drop (m * 7) := by rw [List.map_drop, entc_drop]
/-- The first ones of it. -/
theorem Ow.take {B : Nat} {w : World} {a : Option Addr} {c : Nat} {es : List Ent} (h : Ow B w (.slice a es.length c) es) (m : Nat) (hm : m ≤ es.length) : Ow B w (.slice a m c) (es.take m) := by
  refine ⟨?_, fun e he => h.nil e (List.mem_of_mem_take he)⟩
  rw [List.length_take, Nat.min_eq_left hm, entc_evOf_take]
  refine ⟨by rw [List.length_take, entc_length']; have := Nat.mul_le_mul_right 7 hm; omega, ?_⟩
  rcases h.own.2 with ⟨e, h0⟩ | ⟨g, c', cur, e, h1, h2, h3, h4, h5, h6⟩
  · injection e with e1 e2 e3
    subst e1; subst e3
    obtain rfl : m = 0 := by omega
    exact .inl ⟨rfl, rfl⟩
  · injection e with e1 e2 e3
    subst e1; subst e3
    refine .inr ⟨g, c, cur, rfl, h1, h2, by omega, h4, h5, ?_⟩
    rw [← h6, List.take_take, Nat.min_eq_left (Nat.mul_le_mul_right 7 hm)]
/-- The last ones of it, as they are read. -/
theorem Ow.dropSl {B : Nat} {w : World} {a : Option Addr} {c : Nat} {es : List Ent} (h : Ow B w (.slice a es.length c) es) (m : Nat) (hm : m ≤ es.length) (a' : Option Addr) (c' : Nat) (hc : es.length - m ≤ c') (h0 : a' = Option.none → c' = 0)
    (ha : 0 < es.length - m → a' = a.map (·.add (m * 7))) : Sl w (.slice a' (es.length - m) c') 7 (es.length - m) (entc ((es.drop m).map evOf)) := by
  obtain ⟨ao, cap, e, h1, h2, h3, h4⟩ := Sl.of_own h.own
  injection e with e1 e2 e3
  subst e1; subst e3
  refine ⟨a', c', rfl, hc, by rw [entc_length', List.length_drop], h0, fun hn => ?_⟩
  obtain ⟨g, off, rfl, hg, hcell⟩ := h4 (by omega)
  refine ⟨g, off + m * 7, by rw [ha hn]; simp [Addr.add], hg, fun j u hj => ?_⟩
  rw [entc_evOf_drop, List.getElem?_drop] at hj
  rw [Nat.add_assoc]
  exact hcell _ _ hj
/-- One more. -/
theorem Ow.push {B : Nat} {w w' : World} {v v' : Value} {es : List Ent} {e : Ent} (h : Ow B w v es) (he : e.lines = []) (ho : w'.ownsRow B 34 7 v' (es.length + 1) (entc (es.map evOf) ++ (evOf e).cells)) : Ow B w' v' (es ++ [e]) := by
  refine ⟨?_, fun x hx => ?_⟩
  · rw [List.length_append, List.length_singleton, List.map_append]
    have : entc (es.map evOf ++ [e].map evOf) = entc (es.map evOf) ++ (evOf e).cells := by unfold entc; rw [List.flatMap_append]; simp
    rw [this]
    exact ho
  · rcases List.mem_append.1 hx with h' | h'
    · exact h.nil x h'
    · rw [List.mem_singleton.1 h']; exact he

/-- What holds in each round: the pipe at p holds es behind base, and so does the row ov, in memory of its own. -/
structure KI (W : World) (p : Nat) (base : Int) (ov : Value) (es : List Ent) (w : World) : Prop where
  pp : ∃ (F : Nat → Prop) (xs : List EV), Pp F w p base xs ∧ xs.map EV.e = es ∧ (∀ i, F i → W.heap.size ≤ i ∧ i < w.heap.size) ∧ ∀ g, ov.ownBlock = some g → ¬ F g
  ow : Ow W.heap.size w ov es
  np : ∀ g, ov.ownBlock = some g → g ≠ p
  pw : W.heap.size ≤ p
  fr : Fr none' W w
theorem KI.few {W : World} {p : Nat} {base : Int} {ov : Value} {es : List Ent} {w : World} (h : KI W p base ov es w) : es.length ≤ 24 := by
  obtain ⟨F, xs, h1, h2, _⟩ := h.pp
  rw [← h2, List.length_map]
  exact h1.few
theorem KI.keep0 {W : World} {p : Nat} {base : Int} {ov : Value} {es : List Ent} {w w' : World} (h : KI W p base ov es w) (f : Fr none' w w') : KI W p base ov es w' := by
  obtain ⟨F, xs, h1, h2, h3, h4⟩ := h.pp
  exact ⟨⟨F, xs, h1.keep0 f, h2, fun i hi => ⟨(h3 i hi).1, Nat.lt_of_lt_of_le (h3 i hi).2 f.size⟩, h4⟩, h.ow.keep0 f, h.np, h.pw, h.fr.trans f (fun _ _ h => h)⟩
/-- The pipe alone has turned, within its own blocks. -/
theorem KI.turn {W : World} {p : Nat} {base base' : Int} {ov ov' : Value} {es es' : List Ent} {w w' : World} {F : Nat → Prop} {xs' : List EV} (h : KI W p base ov es w) (hF : ∀ i, F i → W.heap.size ≤ i ∧ i < w.heap.size) (hno : ∀ g, ov.ownBlock = some g → ¬ F g)
    (hp : Pp F w' p base' xs') (hx : xs'.map EV.e = es') (f : Fr (one p) w w') (ho : Ow W.heap.size w' ov' es') (hb : ∀ g, ov'.ownBlock = some g → ov.ownBlock = some g) : KI W p base' ov' es' w' :=
  ⟨⟨F, xs', hp, hx, fun i hi => ⟨(hF i hi).1, Nat.lt_of_lt_of_le (hF i hi).2 f.size⟩, fun g hg => hno g (hb g hg)⟩, ho, fun g hg => h.np g (hb g hg), h.pw, h.fr.trans f (fun i hi e => by cases e; have := h.pw; omega)⟩
theorem row_cells {w : World} {B e k n : Nat} {v : Value} {cs : List Value} (h : w.ownsRow B e k v n cs) : ∃ a c, v = .slice a n c ∧ n ≤ c := by
  rcases h.2 with ⟨e, h0⟩ | ⟨g, c, cur, e, _, _, hc, _⟩
  · exact ⟨Option.none, 0, by rw [e, h0], by omega⟩
  · exact ⟨_, c, e, hc⟩
/-- One more, on both sides. -/
theorem KI.append {W : World} {p : Nat} {b : Int} {ov v5 : Value} {es : List Ent} {w3 w4 w5 : World} {F F' : Nat → Prop} {xs : List EV} {y : EV} {e : Ent} (K : KI W p b ov es w3) (hx : xs.map EV.e = es) (hF : ∀ i, F i → W.heap.size ≤ i ∧ i < w3.heap.size) (hno : ∀ g, ov.ownBlock = some g → ¬ F g)
    (hy : y.e = e) (he : e.lines = []) (hF' : ∀ i, F' i → F i ∨ w3.heap.size ≤ i) (hP' : Pp F' w4 p b (xs ++ [y])) (hR : Fr (fun i => i = p ∨ F i) w3 w4) (o : Obj)
    (ho5 : w5.ownsRow W.heap.size 34 7 v5 (es.length + 1) (entc (es.map evOf) ++ (evOf e).cells)) (hg5 : (w4.alloc o).grownBy w5 ov.ownBlock) (hb5 : v5.ownBlock = ov.ownBlock ∨ v5.ownBlock = some (w4.alloc o).heap.size) : KI W p b v5 (es ++ [e]) w5 := by
  have fa4 : Fr none' w4 (w4.alloc o) := (Fr.refl _ _).alloc _
  have FG : Fr (fun b => ov.ownBlock = some b) (w4.alloc o) w5 := Fr.grown (Fr.refl _ _) hg5 (fun k hk => .inr hk)
  have hsz : (w4.alloc o).heap.size = w4.heap.size + 1 := World.size_alloc ..
  have hs3 := hR.size
  have hs5 := FG.size
  have hWs := K.fr.size
  have hpl := hP'.lt
  have hown : ∀ g, ov.ownBlock = some g → ¬ F' g := fun g hg h => by
    rcases hF' g h with h | h
    · exact hno g hg h
    · have := (K.ow.lt g hg).2; omega
  refine ⟨⟨fun i => F' i ∧ i < w4.heap.size, xs ++ [y], (hP'.live.keep0 fa4).keep FG (fun h => K.np p h rfl) (fun g hg _ h => hown g h hg.1), by rw [List.map_append, hx, ← hy]; rfl, fun i hi => ⟨?_, by omega⟩, fun g hg h => ?_⟩, ?_, fun g hg => ?_, K.pw, ?_⟩
  · rcases hF' i hi.1 with h | h
    · exact (hF i h).1
    · omega
  · rcases hb5 with h5 | h5
    · exact hown g (by rw [← h5]; exact hg) h.1
    · rw [h5] at hg
      injection hg with hg
      have := h.2; omega
  · exact (K.ow.keep (K.fr.size |> fun _ => hR) (fun g hg e => by
      rcases e with e | e
      · exact K.np g hg e
      · exact hno g hg e)).push he ho5
  · rcases hb5 with h5 | h5
    · exact K.np g (by rw [← h5]; exact hg)
    · rw [h5] at hg
      injection hg with hg
      omega
  · have h1 : Fr none' W w4 := K.fr.trans hR (fun i hi e => by
      rcases e with e | e
      · have := K.pw; omega
      · have := (hF i e).1; omega)
    exact (h1.trans fa4 (fun _ _ h => h)).trans FG (fun i hi e => by have := (K.ow.lt i e).1; omega)

end Go.Proofs.YtmhicplhfbnpaaaDoor
