/-
  From a law's walk to its row: what a law of this seat asks behind the walk is that nothing that was there has turned.
-/
import Derived.Test.YtmhicplhfbnpaaaDoorCore
import Derived.ProofKit
import Derived.SizedLaws
import Derived.OpenShut
import Derived.Deep.Slices
namespace Go.Proofs.YtmhicplhfbnpaaaDoor
set_option linter.unusedVariables false
open Go.ChangeShapes Go.WideShapes Go.ChangeAt Go.RowKit Go.Deep

section
variable {H : Type} {enc : TypeId × Value → H} {P : Program}

theorem trodAll_below {W W' : World} (hl : laidOutB P = true) (hb : Below W.heap.size W W') : ∀ {ts : List TypeId} {vs : List Value} {ds : List (DataW H)} {ps : List MemPlace},
    ts.all (fun t => P.readableRec t && decide (t < P.types.size)) = true → DataW.TrodAll enc P W 0 (fun _ => true) true ts vs ds ps → (∀ x ∈ ps, x.block < W.heap.size) →
    DataW.TrodAll enc P W' 0 (fun b => decide (b < W.heap.size)) true ts vs ds ps
  | [], [], [], _, _, h, _ => h
  | t :: ts, v :: vs, d :: ds, _, hr, ⟨p, q, h1, h2, rfl⟩, hlt => by
    simp only [List.all_cons, Bool.and_eq_true, decide_eq_true_eq] at hr
    exact ⟨p, q, Below.trod hl hr.1.1 hr.1.2 h1 hb (fun x hx => hlt x (List.mem_append.2 (.inl hx))), trodAll_below hl hb hr.2 h2 (fun x hx => hlt x (List.mem_append.2 (.inr hx))), rfl⟩
  | [], _ :: _, _, _, _, h, _ => h.elim
  | [], [], _ :: _, _, _, h, _ => h.elim
  | _ :: _, [], _, _, _, h, _ => h.elim
  | _ :: _, _ :: _, [], _, _, h, _ => h.elim

/-- THE LAW's END: it returned true, and nothing that was there has turned. -/
theorem law_post {f : Func} {F : FuncId} {s : ChangeSpec} {tb : TypeId} {W : World} {args : Array Value} {ds gs : List (DataW H)} {before : List MemPlace}
    (hl : laidOutB P = true) (hr : f.params.toList.all (fun t => P.readableRec t && decide (t < P.types.size)) = true) (hres : f.resultTypes = #[tb]) (hb : P.underlying tb = some .bool) (hv : s.vars = [])
    (hW : DataW.Whole enc P f.params.toList s.vars false W args.toList ds gs before) (hspec : s.fn H (ds ++ gs) = { results := [.lit (.bool true)], args := ds })
    (walk : Calls P F args W fun e W' => e = .returned (.bool true) ∧ Below W.heap.size W W') :
    Calls P F args W fun e W' => ∃ v, e = .returned v ∧ s.post enc P f false true false false W args v W' := by
  refine walk.mono ?_
  rintro e W' ⟨rfl, hbl⟩
  refine ⟨_, rfl, ds, gs, before, [], before, [], hW, ?_, ?_, ?_, hbl.frame _, fun h => by cases h⟩
  · rw [hspec, hres]
    exact trodAll_mk1 (shut_bool hb true)
  · rw [hspec]
    have hlt := hW.lt
    obtain ⟨p, q, hA, hV, rfl, _, _⟩ := hW
    have hq : q = [] := by
      rw [hv] at hV
      cases gs with
      | nil => exact hV
      | cons _ _ => exact hV.elim
    subst hq
    rw [List.append_nil] at hlt ⊢
    exact trodAll_below hl hbl hr hA (fun x hx => by simpa using hlt x hx)
  · rw [hspec, hv]
    exact rfl

/-- A list of bools that came in: whatever place it has, element k is there. -/
def BoolsAt (W : World) (a : Option Addr) (len : Nat) (f : Nat → Bool) : Prop :=
  ∀ k, k < len → ∃ b off, a = some ⟨b, off, none⟩ ∧ b < W.heap.size ∧ ∀ j, j < len → W.cell? ⟨b, off + j, none⟩ = some (.bool (f j))
/-- A list of ints that came in. -/
def IntsAt (W : World) (a : Option Addr) (len : Nat) (f : Nat → Int) : Prop :=
  ∀ k, k < len → ∃ b off, a = some ⟨b, off, none⟩ ∧ b < W.heap.size ∧ (∀ j, j < len → W.cell? ⟨b, off + j, none⟩ = some (.int .i64 (f j))) ∧ ∀ j, j < len → -9223372036854775808 ≤ f j ∧ f j ≤ 9223372036854775807

theorem lt_of_cell {w : World} {a : Addr} {v : Value} (h : w.cell? a = some v) : a.block < w.heap.size := by
  unfold World.cell? at h
  split at h
  · rename_i hb; exact lt_of_blk hb
  · cases h

theorem bools_arg {W : World} {base : Nat} {b0 : Nat} {r : Reach} {t e : TypeId} {v : Value} {d : DataW H} {ps : List MemPlace} (ht : P.underlying t = some (.slice e)) (he : P.underlying e = some .bool) (hc : P.cellsOf e = 1)
    (hval : Value.okWide P W r b0 t v) (hd : DataW.Trod enc P W base (fun _ => true) true t v d ps) :
    ∃ a len cap f, v = .slice a len cap ∧ len ≤ 9223372036854775807 ∧ BoolsAt W a len f := by
  obtain ⟨a, len, cap, rfl⟩ := okWide_slice ht hval
  obtain ⟨fuel, hf⟩ := hd
  rcases open_slice1 ht hc hf with ⟨h, _⟩ | ⟨a', len', cap', m, n, V, D, Pl, h, hb, hl, hm, hmm, _, hx⟩
  · simp [Value.cells] at h
    obtain ⟨rfl, rfl, rfl⟩ := h
    exact ⟨none, 0, 0, fun _ => false, rfl, by omega, fun k hk => by omega⟩
  · simp [Value.cells] at h
    obtain ⟨rfl, rfl, rfl⟩ := h
    simp only [if_true] at hmm
    subst hmm
    have hbool : ∀ i, ∃ x : Bool, i < m → V i = .bool x := fun i => by
      by_cases hi : i < m
      · obtain ⟨x, h1, _⟩ := DataW.trod_bool he (hx i hi).2
        simp at h1
        exact ⟨x, fun _ => h1⟩
      · exact ⟨false, fun h => absurd h hi⟩
    refine ⟨some a', len, m, fun i => (hbool i).choose, rfl, by unfold maxLen at hm; omega, fun k hk => ?_⟩
    obtain ⟨b, o, s⟩ := a'
    have h0 := (hx 0 (by omega)).1
    have hs : s = none := by simpa [Addr.add] using World.cell?_spot h0
    subst hs
    refine ⟨b, o, rfl, by simpa [Addr.add] using lt_of_cell h0, fun j hj => ?_⟩
    have := (hx j (by omega)).1
    rw [(hbool j).choose_spec (by omega), add_plain] at this
    exact this

theorem wf_i64_bounds {n : Int} (h : (Lit.int .i64 n).wf = true) : -9223372036854775808 ≤ n ∧ n ≤ 9223372036854775807 := by
  simp [Lit.wf, IntKind.min, IntKind.max, IntKind.signed, IntKind.bits] at h
  exact ⟨by omega, by omega⟩

theorem ints_arg {W : World} {base : Nat} {b0 : Nat} {r : Reach} {t e : TypeId} {v : Value} {d : DataW H} {ps : List MemPlace} (ht : P.underlying t = some (.slice e)) (he : P.underlying e = some (.int .i64)) (hc : P.cellsOf e = 1)
    (hval : Value.okWide P W r b0 t v) (hd : DataW.Trod enc P W base (fun _ => true) true t v d ps) :
    ∃ a len cap f, v = .slice a len cap ∧ len ≤ 9223372036854775807 ∧ IntsAt W a len f := by
  obtain ⟨a, len, cap, rfl⟩ := okWide_slice ht hval
  obtain ⟨fuel, hf⟩ := hd
  rcases open_slice1 ht hc hf with ⟨h, _⟩ | ⟨a', len', cap', m, n, V, D, Pl, h, hb, hl, hm, hmm, _, hx⟩
  · simp [Value.cells] at h
    obtain ⟨rfl, rfl, rfl⟩ := h
    exact ⟨none, 0, 0, fun _ => 0, rfl, by omega, fun k hk => by omega⟩
  · simp [Value.cells] at h
    obtain ⟨rfl, rfl, rfl⟩ := h
    simp only [if_true] at hmm
    subst hmm
    have hint : ∀ i, ∃ x : Int, i < m → V i = .int .i64 x ∧ (Lit.int .i64 x).wf = true := fun i => by
      by_cases hi : i < m
      · obtain ⟨x, h1, _, h2⟩ := DataW.trod_int he (hx i hi).2
        simp at h1
        exact ⟨x, fun _ => ⟨h1, h2⟩⟩
      · exact ⟨0, fun h => absurd h hi⟩
    refine ⟨some a', len, m, fun i => (hint i).choose, rfl, by unfold maxLen at hm; omega, fun k hk => ?_⟩
    obtain ⟨b, o, s⟩ := a'
    have h0 := (hx 0 (by omega)).1
    have hs : s = none := by simpa [Addr.add] using World.cell?_spot h0
    subst hs
    refine ⟨b, o, rfl, by simpa [Addr.add] using lt_of_cell h0, fun j hj => ?_, fun j hj => wf_i64_bounds ((hint j).choose_spec (by omega)).2⟩
    have := (hx j (by omega)).1
    rw [((hint j).choose_spec (by omega)).1, add_plain] at this
    exact this

theorem ints_of_blk {w : World} {b : Nat} {c : Array Value} {t : TypeId} {fz : Nat × Nat} (h : w.heap[b]? = some (.cells c t fz)) (n : Nat) (f : Nat → Int) (hc : ∀ j, j < n → c[j]? = some (.int .i64 (f j)))
    (hb : ∀ j, j < n → -9223372036854775808 ≤ f j ∧ f j ≤ 9223372036854775807) : IntsAt w (some ⟨b, 0, none⟩) n f :=
  fun _ _ => ⟨_, _, rfl, lt_of_blk h, fun j hj => cell_of_blk (o := 0 + j) h (by rw [Nat.zero_add]; exact hc j hj), hb⟩

/-- The three numbers, by their places. -/
def three (x y z : Int) : Nat → Int | 0 => x | 1 => y | _ => z
theorem ints_three {w : World} {b : Nat} {x y z : Int} {t : TypeId} {fz : Nat × Nat} (h : w.heap[b]? = some (.cells #[.int .i64 x, .int .i64 y, .int .i64 z] t fz)) (hx : 0 ≤ x ∧ x ≤ 9223372036854775807) (hy : 0 ≤ y ∧ y ≤ 9223372036854775807) (hz : 0 ≤ z ∧ z ≤ 9223372036854775807) :
    IntsAt w (some ⟨b, 0, none⟩) 3 (three x y z) :=
  ints_of_blk h 3 _ (fun j hj => by match j, hj with | 0, _ | 1, _ | 2, _ => rfl) (fun j hj => by match j, hj with | 0, _ => exact ⟨by show _ ≤ x; omega, hx.2⟩ | 1, _ => exact ⟨by show _ ≤ y; omega, hy.2⟩ | 2, _ => exact ⟨by show _ ≤ z; omega, hz.2⟩)

theorem int_arg {W : World} {base : Nat} {b0 : Nat} {r : Reach} {t : TypeId} {v : Value} {d : DataW H} {ps : List MemPlace} (ht : P.underlying t = some (.int .i64))
    (hval : Value.okWide P W r b0 t v) (hd : DataW.Trod enc P W base (fun _ => true) true t v d ps) :
    ∃ n, v = .int .i64 n ∧ -9223372036854775808 ≤ n ∧ n ≤ 9223372036854775807 := by
  obtain ⟨n, rfl, _, _, h⟩ := open_int ht hval hd
  exact ⟨n, rfl, wf_i64_bounds h⟩
end
end Go.Proofs.YtmhicplhfbnpaaaDoor
