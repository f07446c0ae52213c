/-
  Arguments that come in, opened: rows of whatever cells, bytes, arrays of ints by value. No program in it.
-/
import Derived.Test.YtnflppgmccddoaaLaw
import Derived.Test.YtnflppgmccddoaaSl
namespace Go.Proofs.Ytnflppgmccddoaa
set_option linter.unusedVariables false
open Go.ChangeShapes Go.WideShapes Go.ChangeAt Go.RowKit Go.Deep

theorem getElem?_flatMap {X Y : Type} (En : X → List Y) (k : Nat) (hk : 0 < k) : ∀ (xs : List X), (∀ x ∈ xs, (En x).length = k) → ∀ j, (xs.flatMap En)[j]? = (xs[j / k]?).bind fun x => (En x)[j % k]?
  | [], _, j => by simp
  | x :: xs, h, j => by
    have hx := h x (by simp)
    have ih := getElem?_flatMap En k hk xs (fun y hy => h y (by simp [hy]))
    rw [List.flatMap_cons, List.getElem?_append]
    split
    · rename_i hj
      rw [Nat.div_eq_of_lt (by omega), Nat.mod_eq_of_lt (by omega)]
      rfl
    · rename_i hj
      rw [hx] at hj ⊢
      rw [ih]
      have e1 : j / k = (j - k) / k + 1 := by
        have : j = (j - k) + k := by omega
        rw [this, Nat.add_div_right _ hk]
        simp
      have e2 : (j - k) % k = j % k := by
        obtain ⟨i, rfl⟩ : ∃ i, j = i + k := ⟨j - k, by omega⟩
        rw [Nat.add_mod_right, Nat.add_sub_cancel]
      rw [e2, e1]
      rfl

theorem length_flatMap_const {X Y : Type} (En : X → List Y) (k : Nat) : ∀ (xs : List X), (∀ x ∈ xs, (En x).length = k) → (xs.flatMap En).length = xs.length * k
  | [], _ => by simp
  | x :: xs, h => by
    rw [List.flatMap_cons, List.length_append, h x (by simp), length_flatMap_const En k xs (fun y hy => h y (by simp [hy])), List.length_cons, Nat.succ_mul]
    omega

section
variable {H : Type} {enc : TypeId × Value → H} {P : Program} {W : World}

/-- A slice whose elements are k cells each, opened. -/
theorem rows_trod {X : Type} (En : X → List Value) (Pr : X → Prop) {t e : TypeId} {k fuel : Nat} {cs : List Value} {x : DataW H × List MemPlace} (ht : P.underlying t = some (.slice e)) (hk : P.cellsOf e = k) (hk0 : 0 < k)
    (hE : ∀ (n : Nat) (cs : List Value) (x : DataW H × List MemPlace), DataW.trod enc P W 0 (fun _ => true) true n e cs = some x → ∃ m : X, cs = En m ∧ Pr m)
    (h : DataW.trod enc P W 0 (fun _ => true) true fuel t cs = some x) :
    ∃ a cap, ∃ xs : List X, cs = [.slice a xs.length cap] ∧ xs.length ≤ 9223372036854775807 ∧ Sl W (.slice a xs.length cap) k xs.length (xs.flatMap En) ∧ ∀ m ∈ xs, Pr m ∧ (En m).length = k := by
  rcases open_slice ht h with ⟨rfl, _⟩ | ⟨a, len, cap, m, n, D, Pl, rfl, hb, hl, hm, hmm, _, hx⟩
  · exact ⟨none, 0, [], rfl, by simp, Sl.nil W k, fun _ h => by cases h⟩
  simp only [if_true] at hmm
  subst hmm
  rw [hk] at hx
  have key : ∀ i : Fin len, ∃ y : X, W.cells? 0 (a.add (i.1 * k)) k = some (En y) ∧ Pr y := fun i => by
    obtain ⟨cs', h1, h2⟩ := hx i.1 (Nat.lt_of_lt_of_le i.2 hl)
    obtain ⟨y, rfl, h3⟩ := hE _ _ _ h2
    exact ⟨y, h1, h3⟩
  rcases Nat.eq_zero_or_pos len with rfl | h0
  · exact ⟨some a, m, [], rfl, by simp, ⟨some a, m, rfl, by simp, by simp, fun h => (by cases h), fun h => absurd h (by simp)⟩, fun _ h => by cases h⟩
  let M : Fin len → X := fun i => (key i).choose
  have hM : ∀ i, W.cells? 0 (a.add (i.1 * k)) k = some (En (M i)) ∧ Pr (M i) := fun i => (key i).choose_spec
  have hlen : (List.ofFn M).length = len := by simp
  have hall : ∀ y ∈ List.ofFn M, Pr y ∧ (En y).length = k := by
    intro y hy
    obtain ⟨i, rfl⟩ := List.mem_ofFn.1 hy
    obtain ⟨_, h2, _⟩ := World.cells?_some (hM i).1
    exact ⟨(hM i).2, h2⟩
  refine ⟨some a, m, List.ofFn M, by rw [hlen], by rw [hlen]; unfold maxLen at hm; omega, ?_, hall⟩
  rw [hlen]
  have c0 : ∃ v, W.cell? a = some v := by
    obtain ⟨_, h2, h3⟩ := World.cells?_some (hM ⟨0, h0⟩).1
    have h4 := h3 0 hk0
    rw [List.getElem?_eq_getElem (by omega)] at h4
    exact ⟨_, by simpa [Addr.add] using h4⟩
  obtain ⟨v0, c0⟩ := c0
  have hspot : a.spot = none := World.cell?_spot c0
  have hlt := lt_of_cell c0
  obtain ⟨b, o, sp⟩ := a
  simp only at hspot hlt
  subst hspot
  have cell : ∀ (i : Fin len) (p : Nat), p < k → W.cell? ⟨b, o + (i.1 * k + p), none⟩ = (En (M i))[p]? := by
    intro i p hp
    obtain ⟨_, h2, h3⟩ := World.cells?_some (hM i).1
    have := h3 p hp
    rw [← this, add_plain, add_plain, Nat.add_assoc]
  refine ⟨some ⟨b, o, none⟩, m, rfl, hl, by rw [length_flatMap_const En k _ (fun y hy => (hall y hy).2), hlen], fun h => (by cases h), fun _ => ⟨b, o, rfl, fun _ => hlt, fun j u hj => ?_⟩⟩
  rw [getElem?_flatMap En k hk0 _ (fun y hy => (hall y hy).2)] at hj
  obtain ⟨y, h1, h2⟩ := Option.bind_eq_some_iff.1 hj
  rw [List.getElem?_ofFn] at h1
  split at h1
  · rename_i hlt'
    cases h1
    have h3 := cell ⟨j / k, hlt'⟩ (j % k) (Nat.mod_lt _ hk0)
    rw [h2] at h3
    have e : j / k * k + j % k = j := by rw [Nat.mul_comm]; exact Nat.div_add_mod j k
    simp only at h3
    rw [e] at h3
    exact h3
  · cases h1

theorem rows_arg {X : Type} (En : X → List Value) (Pr : X → Prop) {t e : TypeId} {k b0 : Nat} {r : Reach} {v : Value} {d : DataW H} {ps : List MemPlace} (ht : P.underlying t = some (.slice e)) (hk : P.cellsOf e = k) (hk0 : 0 < k)
    (hE : ∀ (n : Nat) (cs : List Value) (x : DataW H × List MemPlace), DataW.trod enc P W 0 (fun _ => true) true n e cs = some x → ∃ m : X, cs = En m ∧ Pr m)
    (hval : Value.okWide P W r b0 t v) (hd : DataW.Trod enc P W 0 (fun _ => true) true t v d ps) :
    ∃ a cap, ∃ xs : List X, v = .slice a xs.length cap ∧ xs.length ≤ 9223372036854775807 ∧ Sl W (.slice a xs.length cap) k xs.length (xs.flatMap En) ∧ ∀ m ∈ xs, Pr m ∧ (En m).length = k := by
  obtain ⟨a, len, cap, rfl⟩ := okWide_slice ht hval
  obtain ⟨fuel, hf⟩ := hd
  obtain ⟨a', cap', xs, h, r⟩ := rows_trod En Pr ht hk hk0 hE hf
  simp [Value.cells] at h
  obtain ⟨rfl, rfl, rfl⟩ := h
  exact ⟨_, _, xs, rfl, r⟩

theorem flatMap_byt (L : List UInt8) : L.flatMap (fun b => [Value.int .u8 b.toNat]) = byt L := by
  induction L with
  | nil => rfl
  | cons b L ih => rw [List.flatMap_cons, ih]; rfl

theorem u8_trod {e : TypeId} (he : P.underlying e = some (.int .u8)) (n : Nat) (cs : List Value) (x : DataW H × List MemPlace) (h : DataW.trod enc P W 0 (fun _ => true) true n e cs = some x) : ∃ m : UInt8, cs = [Value.int .u8 m.toNat] ∧ True := by
  obtain ⟨y, h1, _, h2⟩ := DataW.trod_int he h
  simp [Lit.wf, IntKind.min, IntKind.max, IntKind.signed, IntKind.bits] at h2
  obtain ⟨m, rfl⟩ := Int.eq_ofNat_of_zero_le (show 0 ≤ y by omega)
  refine ⟨UInt8.ofNat m, ?_, trivial⟩
  rw [h1]
  congr 2
  simp
  omega

/-- A []byte that comes in. -/
theorem bytes_trod {t e : TypeId} {fuel : Nat} {cs : List Value} {x : DataW H × List MemPlace} (ht : P.underlying t = some (.slice e)) (he : P.underlying e = some (.int .u8)) (hk : P.cellsOf e = 1)
    (h : DataW.trod enc P W 0 (fun _ => true) true fuel t cs = some x) : ∃ v L, cs = [v] ∧ Bytes W v L ∧ L.length ≤ 9223372036854775807 := by
  obtain ⟨a, cap, L, h1, h2, h3, _⟩ := rows_trod (X := UInt8) (fun b => [Value.int .u8 b.toNat]) (fun _ => True) ht hk (by decide) (u8_trod he) h
  rw [flatMap_byt] at h3
  exact ⟨_, L, h1, h3, h2⟩
theorem bytes_arg {b0 : Nat} {r : Reach} {t e : TypeId} {v : Value} {d : DataW H} {ps : List MemPlace} (ht : P.underlying t = some (.slice e)) (he : P.underlying e = some (.int .u8)) (hk : P.cellsOf e = 1)
    (hval : Value.okWide P W r b0 t v) (hd : DataW.Trod enc P W 0 (fun _ => true) true t v d ps) : ∃ L, Bytes W v L ∧ L.length ≤ 9223372036854775807 := by
  obtain ⟨a, cap, L, rfl, h2, h3, _⟩ := rows_arg (X := UInt8) (fun b => [Value.int .u8 b.toNat]) (fun _ => True) ht hk (by decide) (u8_trod he) hval hd
  rw [flatMap_byt] at h3
  exact ⟨L, h3, h2⟩

theorem flatMap_one {X Y : Type} (f : X → Y) (L : List X) : L.flatMap (fun b => [f b]) = L.map f := by
  induction L with
  | nil => rfl
  | cons b L ih => rw [List.flatMap_cons, ih]; rfl

/-- A [][]byte that comes in. -/
theorem lines_arg {b0 : Nat} {r : Reach} {t e u : TypeId} {v : Value} {d : DataW H} {ps : List MemPlace} (ht : P.underlying t = some (.slice e)) (he : P.underlying e = some (.slice u)) (hu : P.underlying u = some (.int .u8)) (hk : P.cellsOf e = 1) (hk1 : P.cellsOf u = 1)
    (hval : Value.okWide P W r b0 t v) (hd : DataW.Trod enc P W 0 (fun _ => true) true t v d ps) :
    ∃ a cap, ∃ xs : List (Value × List UInt8), v = .slice a xs.length cap ∧ xs.length ≤ 9223372036854775807 ∧ Sl W (.slice a xs.length cap) 1 xs.length (xs.map (·.1)) ∧ ∀ m ∈ xs, Bytes W m.1 m.2 ∧ m.2.length ≤ 9223372036854775807 := by
  obtain ⟨a, cap, xs, rfl, h2, h3, h4⟩ := rows_arg (X := Value × List UInt8) (fun m => [m.1]) (fun m => Bytes W m.1 m.2 ∧ m.2.length ≤ 9223372036854775807) ht hk (by decide) (fun n cs x h => by
    obtain ⟨v, L, rfl, h1, h2⟩ := bytes_trod he hu hk1 h
    exact ⟨(v, L), rfl, h1, h2⟩) hval hd
  refine ⟨a, cap, xs, rfl, h2, ?_, fun m hm => (h4 m hm).1⟩
  rw [flatMap_one] at h3
  exact h3

theorem ints_cells {n : Nat} {e : TypeId} (he : P.underlying e = some (.int .i64)) (xs : List (DataW H × List MemPlace)) (m : Nat) (cs : List Value) (hl : cs.length = n) (hx : xs.length = n)
    (hf : ∀ i, i < n → DataW.trod enc P W 0 (fun _ => true) true m e ((cs.drop (i * 1)).take 1) = xs[i]?) : ∃ ys : List Int, cs = ys.map (.int .i64) ∧ ys.length = n ∧ ∀ y ∈ ys, -9223372036854775808 ≤ y ∧ y ≤ 9223372036854775807 := by
  have key : ∀ i : Fin n, ∃ y : Int, cs[i.1]? = some (.int .i64 y) ∧ (Lit.int .i64 y).wf = true := fun i => by
    have h := hf i.1 i.2
    rw [List.getElem?_eq_getElem (by omega)] at h
    obtain ⟨y, h1, _, h2⟩ := DataW.trod_int he h
    refine ⟨y, ?_, h2⟩
    have : ((cs.drop (i.1 * 1)).take 1)[0]? = some (.int .i64 y) := by rw [h1]; rfl
    simpa [List.getElem?_take, List.getElem?_drop] using this
  refine ⟨List.ofFn fun i => (key i).choose, ?_, by simp, ?_⟩
  · apply List.ext_getElem?
    intro j
    by_cases hj : j < n
    · rw [(key ⟨j, hj⟩).choose_spec.1]
      simp [hj]
    · rw [List.getElem?_eq_none (by omega), List.getElem?_eq_none (by simp; omega)]
  · intro y hy
    obtain ⟨i, rfl⟩ := List.mem_ofFn.1 hy
    exact wf_i64_bounds (key i).choose_spec.2

/-- An array of ints that comes in by value. -/
theorem arr_arg {b0 n : Nat} {r : Reach} {t e : TypeId} {v : Value} {d : DataW H} {ps : List MemPlace} (ht : P.underlying t = some (.array n e)) (he : P.underlying e = some (.int .i64)) (hk : P.cellsOf e = 1) (hkt : P.cellsOf t = n)
    (hval : Value.okWide P W r b0 t v) (hd : DataW.Trod enc P W 0 (fun _ => true) true t v d ps) : ∃ ys : List Int, v = .agg (ys.map (.int .i64)).toArray ∧ ys.length = n ∧ ∀ y ∈ ys, -9223372036854775808 ≤ y ∧ y ≤ 9223372036854775807 := by
  have hv : ∃ cs, v = .agg cs ∧ cs.size = P.cellsOf t ∧ Row.okWide P W r b0 t cs := by
    unfold Value.okWide at hval
    rw [ht] at hval
    exact hval
  obtain ⟨cs, rfl, hsz, _⟩ := hv
  obtain ⟨fuel, hf⟩ := hd
  obtain ⟨xs, m, _, _, hl, hlen, hfe⟩ := DataW.trod_array ht hf
  rw [hk] at hfe
  obtain ⟨ys, h1, h2, h3⟩ := ints_cells (n := n) he xs m _ (by rw [hl, hkt]) hlen hfe
  refine ⟨ys, ?_, h2, h3⟩
  rw [← h1]
  simp [Value.cells]
theorem arr2_arg {b0 : Nat} {r : Reach} {t e : TypeId} {v : Value} {d : DataW H} {ps : List MemPlace} (ht : P.underlying t = some (.array 2 e)) (he : P.underlying e = some (.int .i64)) (hk : P.cellsOf e = 1) (hkt : P.cellsOf t = 2)
    (hval : Value.okWide P W r b0 t v) (hd : DataW.Trod enc P W 0 (fun _ => true) true t v d ps) : ∃ x y : Int, v = .agg #[.int .i64 x, .int .i64 y] ∧ (-9223372036854775808 ≤ x ∧ x ≤ 9223372036854775807) ∧ -9223372036854775808 ≤ y ∧ y ≤ 9223372036854775807 := by
  obtain ⟨ys, rfl, h, hb⟩ := arr_arg ht he hk hkt hval hd
  match ys, h with
  | [x, y], _ => exact ⟨x, y, rfl, hb x (by simp), hb y (by simp)⟩
theorem arr3_arg {b0 : Nat} {r : Reach} {t e : TypeId} {v : Value} {d : DataW H} {ps : List MemPlace} (ht : P.underlying t = some (.array 3 e)) (he : P.underlying e = some (.int .i64)) (hk : P.cellsOf e = 1) (hkt : P.cellsOf t = 3)
    (hval : Value.okWide P W r b0 t v) (hd : DataW.Trod enc P W 0 (fun _ => true) true t v d ps) : ∃ x y z : Int, v = .agg #[.int .i64 x, .int .i64 y, .int .i64 z] ∧ (-9223372036854775808 ≤ x ∧ x ≤ 9223372036854775807) ∧ (-9223372036854775808 ≤ y ∧ y ≤ 9223372036854775807) ∧ -9223372036854775808 ≤ z ∧ z ≤ 9223372036854775807 := by
  obtain ⟨ys, rfl, h, hb⟩ := arr_arg ht he hk hkt hval hd
  match ys, h with
  | [x, y, z], _ => exact ⟨x, y, z, rfl, hb x (by simp), hb y (by simp), hb z (by simp)⟩
end
end Go.Proofs.Ytnflppgmccddoaa
