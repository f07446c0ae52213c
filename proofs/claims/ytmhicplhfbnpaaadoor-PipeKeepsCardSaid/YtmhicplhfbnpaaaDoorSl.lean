/-
  Slices as lists of cells, whatever place they have: 'Sl w v k n cs': v is a slice of n elements of k cells each, that hold cs. Append onto what has no room; bytes and texts. No program in it.
-/
import Derived.Test.YtmhicplhfbnpaaaDoorCore
import Derived.Deep.AppendSrc
import Derived.Deep.RegionLaw
import Derived.Laws.CopyOwn
import Derived.Laws.BytesString
import Derived.OwnWalk
import Derived.Laws.AppendOwnNone
namespace Go.Proofs.YtmhicplhfbnpaaaDoor
set_option linter.unusedVariables false
open Go.RowKit

/-- v is a slice of n elements of k cells each, which hold cs. -/
def Sl (w : World) (v : Value) (k n : Nat) (cs : List Value) : Prop :=
  ∃ ao cap, v = .slice ao n cap ∧ n ≤ cap ∧ cs.length = n * k ∧ (ao = none → cap = 0) ∧ (0 < n → ∃ g off, ao = some ⟨g, off, none⟩ ∧ (0 < k → g < w.heap.size) ∧ ∀ j u, cs[j]? = some u → w.cell? ⟨g, off + j, none⟩ = some u)

theorem Sl.nil (w : World) (k : Nat) : Sl w (.slice none 0 0) k 0 [] := ⟨none, 0, rfl, Nat.le_refl _, by simp, fun _ => rfl, fun h => absurd h (by omega)⟩
theorem Sl.len {w : World} {v : Value} {k n : Nat} {cs : List Value} (h : Sl w v k n cs) : cs.length = n * k := by obtain ⟨_, _, _, _, h, _⟩ := h; exact h

/-- No cell of it lies in block b: what b holds is of another kind. -/
def NoneOf (w : World) (b : Nat) (cs : List Value) : Prop := ∀ o u, w.cell? ⟨b, o, none⟩ = some u → u ∉ cs

theorem Sl.keep {w w' : World} {v : Value} {k n : Nat} {cs : List Value} {S : Nat → Prop} (h : Sl w v k n cs) (f : Fr S w w') (hs : ∀ b, b < w.heap.size → S b → NoneOf w b cs) : Sl w' v k n cs := by
  obtain ⟨ao, cap, rfl, h1, h2, h3, h4⟩ := h
  refine ⟨ao, cap, rfl, h1, h2, h3, fun hn => ?_⟩
  obtain ⟨g, off, rfl, hg, hc⟩ := h4 hn
  refine ⟨g, off, rfl, fun hk => Nat.lt_of_lt_of_le (hg hk) f.size, fun j u hj => ?_⟩
  have hk : 0 < k := by
    rcases Nat.eq_zero_or_pos k with rfl | hk
    · rw [Nat.mul_zero] at h2
      rw [List.eq_nil_of_length_eq_zero h2] at hj; cases hj
    · exact hk
  have h0 := hc j u hj
  rw [f.cell (p := ⟨g, off + j, none⟩) (hg hk) (fun e => hs g (hg hk) e _ u h0 (List.mem_of_getElem? hj))]
  exact h0
theorem Sl.keep0 {w w' : World} {v : Value} {k n : Nat} {cs : List Value} (h : Sl w v k n cs) (f : Fr none' w w') : Sl w' v k n cs := h.keep f (fun _ _ h => h.elim)

theorem Sl.of_own {w : World} {base e k n : Nat} {v : Value} {cs : List Value} (h : w.ownsRow base e k v n cs) : Sl w v k n cs := by
  obtain ⟨hl, h⟩ := h
  rcases h with ⟨rfl, rfl⟩ | ⟨g, cap, cur, rfl, hg, hh, h1, h2, h3, h4⟩
  · exact ⟨none, 0, rfl, Nat.le_refl _, hl, fun _ => rfl, fun h => absurd h (by omega)⟩
  · refine ⟨some ⟨g, 0, none⟩, cap, rfl, h1, hl, fun h => (by cases h), fun _ => ⟨g, 0, rfl, fun _ => lt_of_blk hh, fun j u hj => ?_⟩⟩
    rw [← h4] at hj
    have hj' : cur[j]? = some u := by
      rw [List.getElem?_take] at hj
      split at hj
      · simpa using hj
      · cases hj
    exact cell_of_blk (o := 0 + j) hh (by rw [Nat.zero_add]; exact hj')

theorem ownsRow_keep {w w' : World} {base e k n : Nat} {v : Value} {cs : List Value} {S : Nat → Prop} (h : w.ownsRow base e k v n cs) (f : Fr S w w') (hs : ∀ b, v.ownBlock = some b → ¬ S b) : w'.ownsRow base e k v n cs := by
  obtain ⟨hl, h⟩ := h
  refine ⟨hl, ?_⟩
  rcases h with h | ⟨g, cap, cur, rfl, hg, hh, r⟩
  · exact .inl h
  · exact .inr ⟨g, cap, cur, rfl, hg, f.blk hh (hs g rfl), r⟩

theorem ownsRow_base {w : World} {base base' e k n : Nat} {v : Value} {cs : List Value} (h : w.ownsRow base e k v n cs) (hb : base' ≤ base) : w.ownsRow base' e k v n cs := by
  obtain ⟨hl, h⟩ := h
  refine ⟨hl, ?_⟩
  rcases h with h | ⟨g, cap, cur, rfl, hg, r⟩
  · exact .inl h
  · exact .inr ⟨g, cap, cur, rfl, by omega, r⟩
theorem ownsRow_block {w : World} {base e k n : Nat} {v : Value} {cs : List Value} (h : w.ownsRow base e k v n cs) : ∀ g, v.ownBlock = some g → base ≤ g ∧ g < w.heap.size := by
  obtain ⟨_, h⟩ := h
  rcases h with ⟨rfl, _⟩ | ⟨g, cap, cur, rfl, hg, hh, _⟩
  · intro g h; cases h
  · intro g' h; cases h; exact ⟨hg, lt_of_blk hh⟩

section
variable {P : Program}

theorem Sl.src {w : World} {v : Value} {k n : Nat} {cs : List Value} (h : Sl w v k n cs) {tx e' : TypeId} (hk : P.underlying tx = some (.slice e')) (h1 : ∀ u ∈ cs, u.oneCell' = true) : Src P k tx v n cs w := by
  obtain ⟨ao, cap, rfl, hn, hl, h3, h4⟩ := h
  cases ao with
  | none =>
    have : n = 0 := by have := h3 rfl; omega
    subst this
    obtain rfl : cs = [] := List.eq_nil_of_length_eq_zero (by simpa using hl)
    exact Src.ofNil w hk cap
  | some a =>
    refine Src.ofSlice w hk a n cap cs hl ?_ h1
    intro j u hj
    by_cases h0 : 0 < n
    · obtain ⟨g, off, he, _, hc⟩ := h4 h0
      cases he
      rw [show (⟨g, off, none⟩ : Addr).add j = ⟨g, off + j, none⟩ from by simp [Addr.add]]
      exact hc j u hj
    · have : n = 0 := by omega
      subst this
      obtain rfl : cs = [] := List.eq_nil_of_length_eq_zero (by simpa using hl)
      cases hj

/-- append onto a slice of no length and no room. -/
theorem run_app_fresh {w : World} {x : Value} {n : Nat} {cs : List Value} {k : Nat} (t ty e : TypeId) (i : TypeInfo) (z : Value) (ht : P.underlying t = some (.slice e)) (hi : P.info? e = some i) (hz : i.zero = some z) (hk : i.size = k) (hzk : z.cells.size = k)
    (ao : Option Addr) (hao : ao = none ∨ ∃ g, ao = some ⟨g, 0, none⟩ ∧ w.heap[g]? = some (.cells #[] e (0, 0))) (base : Nat) (hb : base ≤ w.heap.size) (hbg : ∀ g, ao = some ⟨g, 0, none⟩ → base ≤ g)
    (hs : Sl w x k n cs) (h1 : ∀ u ∈ cs, u.oneCell' = true) (hn : n ≤ 9223372036854775807) (hfit : n * i.bytes ≤ 281474976710656) :
    ∃ v' w', (Builtin.append_ #[t, t] ty #[.slice ao 0 0, x]).run P w = .ok v' w' ∧ w'.ownsRow base e k v' n cs ∧ Fr none' w w' ∧ (ao = none → n = 0 → v' = .slice none 0 0) := by
  have hsrc := hs.src (P := P) ht h1
  have hl := hs.len
  subst hk
  by_cases h0 : n = 0
  · subst h0
    obtain rfl : cs = [] := List.eq_nil_of_length_eq_zero (by simpa using hl)
    refine ⟨.slice ao 0 0, w, ?_, ?_, Fr.refl _ _, fun h _ => by rw [h]⟩
    · rcases hao with rfl | ⟨g, rfl, hg⟩
      · rcases hsrc.kind with ⟨e', hk⟩ | hk <;> simp [Builtin.append_, run_underlying ht, sizeOf, typeInfo, hi, hsrc.len, hsrc.cells]
      · rcases hsrc.kind with ⟨e', hk⟩ | hk <;> simp [Builtin.append_, run_underlying ht, sizeOf, typeInfo, hi, hsrc.len, hsrc.cells, storeCells]
    · rcases hao with rfl | ⟨g, rfl, hg⟩
      · exact World.ownsRow_nil _ _ _ _
      · exact ⟨by simp, .inr ⟨g, 0, #[], rfl, hbg g rfl, hg, Nat.le_refl _, by unfold maxLen; omega, by simp, by simp⟩⟩
  · have hold : (Builtin.firstCells i.size 0 (.slice ao 0 0)).run P w.drew = .ok ([] : List Value).toArray w.drew := by
      rcases hao with rfl | ⟨g, rfl, hg⟩
      · exact run_firstCells_none w.drew i.size 0 0 0
      · exact run_firstCells_some w.drew i.size 0 _ 0 0 [] (by simp) (fun _ _ h => by cases h)
    have hcap : Builtin.nextslicecap (0 + n) 0 = n := by simp [Builtin.nextslicecap]; omega
    have hrun := run_append_grow_src (P := P) w t t ty e i z ht hi hz ao 0 0 [] hold x n cs hsrc (by omega) (by omega) (by rw [hcap]; exact hfit)
    refine ⟨_, _, hrun, ?_, ((Fr.refl _ _).drew).alloc _, fun _ h => absurd h h0⟩
    have hg := grownCap_ge w (0 + n) 0 e
    refine ⟨hl, .inr ⟨w.heap.size, _, _, by rw [Nat.zero_add], hb, blk_alloc_new rfl, by omega, grownCap_le_maxLen w (0 + n) 0 e (by unfold maxLen; omega), ?_, ?_⟩⟩
    · simp only [List.nil_append, Array.size_append, List.size_toArray, size_zeroCells, hzk, hl]
      rw [← Nat.add_mul]
      congr 1
      omega
    · simp [hl]

/-- The same, for the walk. -/
theorem wpList_app_fresh {w : World} {ops : Array Oper} {rest : List Oper} {o : Oper} {a : Act} {Q : Exit → Act → World → Prop} (hg : o.guard = none) (s x : Operand) (t : TypeId) (hop : o.op = Op.call { callee := Callee.builtin Builtin.append, args := #[s, x], argTypes := #[t, t] })
    {n : Nat} {cs : List Value} {k : Nat} (e : TypeId) (i : TypeInfo) (z : Value) (ht : P.underlying t = some (.slice e)) (hi : P.info? e = some i) (hz : i.zero = some z) (hk : i.size = k) (hzk : z.cells.size = k)
    (ao : Option Addr) (hs : a.eval s = .slice ao 0 0) (hao : ao = none ∨ ∃ g, ao = some ⟨g, 0, none⟩ ∧ w.heap[g]? = some (.cells #[] e (0, 0))) (base : Nat) (hb : base ≤ w.heap.size) (hbg : ∀ g, ao = some ⟨g, 0, none⟩ → base ≤ g)
    (vx : Value) (hx : a.eval x = vx) (hv : Sl w vx k n cs) (h1 : ∀ u ∈ cs, u.oneCell' = true) (hn : n ≤ 9223372036854775807) (hfit : n * i.bytes ≤ 281474976710656)
    (hK : ∀ v' w', w'.ownsRow base e k v' n cs → Fr none' w w' → (ao = none → n = 0 → v' = .slice none 0 0) → wpList P ops Q rest (a.put o.dst v') w') :
    wpList P ops Q (o :: rest) a w := by
  refine wpList_plain hg fun K hK' => ?_
  obtain ⟨v', w', hrun, r1, r2, r3⟩ := run_app_fresh (P := P) t o.type e i z ht hi hz hk hzk ao hao base hb hbg hv h1 hn hfit
  unfold Oper.wp
  simp [execOp, hop, resolve, invoke, builtin, hs, hx, hrun, Result.andThen]
  exact hK' _ _ (hK v' w' r1 r2 r3)

/-- append onto a slice of the call's own, from whatever source. -/
theorem wpList_app_own {w : World} {ops : Array Oper} {rest : List Oper} {o : Oper} {a : Act} {Q : Exit → Act → World → Prop} (hgd : o.guard = none) (s x : Operand) (t : TypeId)
    (ho : o.op = .call { callee := .builtin .append, args := #[s, x], argTypes := #[t, t] })
    (base : Nat) (e : TypeId) (i : TypeInfo) (z : Value) (size bytes : Nat) (ht : P.underlying t = some (.slice e)) (hi : P.info? e = some i) (hz : i.zero = some z)
    (hsize : i.size = size) (hby : i.bytes = bytes) (hzs : z.cells.size = size) (hsz : 0 < size)
    (v : Value) (n : Nat) (xs : List Value) (hs : a.eval s = v) (hown : w.ownsRow base e size v n xs)
    (vx : Value) (m : Nat) (news : List Value) (hx : a.eval x = vx) (hv : Sl w vx size m news) (h1 : ∀ u ∈ news, u.oneCell' = true)
    (h63 : n + m ≤ 9223372036854775807) (hbytes : (n + m) * bytes ≤ 140737488355328) (hbase : base ≤ w.heap.size)
    (h : ∀ v' w', w'.ownsRow base e size v' (n + m) (xs ++ news) → w.grownBy w' v.ownBlock → wpList P ops Q rest (a.put o.dst v') w') : wpList P ops Q (o :: rest) a w := by
  have hl := hv.len
  obtain ⟨ao, cap, rfl, hn, _, h3, h4⟩ := hv
  cases ao with
  | some ad =>
    refine wpList_append_own (w := w) hgd s x t ho base e i z size bytes ht hi hz hsize hby hzs hsz v n xs hs hown ad m cap news hx hl ?_ h1 (by unfold maxLen; omega) hbytes hbase (fun v' w' r1 r2 _ => h v' w' r1 r2)
    intro j u hj
    by_cases h0 : 0 < m
    · obtain ⟨g, off, he, _, hc⟩ := h4 h0
      cases he
      rw [show (⟨g, off, none⟩ : Addr).add j = ⟨g, off + j, none⟩ from by simp [Addr.add]]
      exact hc j u hj
    · have : m = 0 := by omega
      subst this
      obtain rfl : news = [] := List.eq_nil_of_length_eq_zero (by simpa using hl)
      cases hj
  | none =>
    have : m = 0 := by have := h3 rfl; omega
    subst this
    obtain rfl : news = [] := List.eq_nil_of_length_eq_zero (by simpa using hl)
    have hc0 := h3 rfl
    subst hc0
    refine wpList_append_own_none hgd s x t ho base e i size ht hi v n xs hs hown hx (h v w (by simpa using hown) ⟨rfl, rfl, rfl, Nat.le_refl _, fun _ _ _ => rfl⟩)

/-! ### Bytes -/
/-- Bytes, as cells. -/
def byt (L : List UInt8) : List Value := L.map fun b => .int .u8 b.toNat
theorem byt_one (L : List UInt8) : ∀ u ∈ byt L, u.oneCell' = true := by
  intro u hu
  obtain ⟨_, _, rfl⟩ := List.mem_map.1 hu
  rfl
theorem byt_length (L : List UInt8) : (byt L).length = L.length := by simp [byt]
theorem byt_get (L : List UInt8) (j : Nat) (h : j < L.length) : (byt L)[j]? = some (.int .u8 (L[j].toNat)) := by simp [byt, h]
/-- v is a slice of the bytes L. -/
def Bytes (w : World) (v : Value) (L : List UInt8) : Prop := Sl w v 1 L.length (byt L)
theorem Bytes.keep0 {w w' : World} {v : Value} {L : List UInt8} (h : Bytes w v L) (f : Fr none' w w') : Bytes w' v L := Sl.keep0 h f
theorem Bytes.nil (w : World) : Bytes w (.slice none 0 0) [] := Sl.nil w 1
/-- A slice of bytes lies in no block whose cells are no bytes. -/
theorem Bytes.keep {w w' : World} {v : Value} {L : List UInt8} {S : Nat → Prop} (h : Bytes w v L) (f : Fr S w w') (hs : ∀ b, b < w.heap.size → S b → ∀ o x, w.cell? ⟨b, o, none⟩ ≠ some (.int .u8 x)) : Bytes w' v L :=
  Sl.keep h f (fun b hb hS o u hu hm => by
    obtain ⟨x, _, rfl⟩ := List.mem_map.1 hm
    exact hs b hb hS o _ hu)

theorem foldl_bytes : ∀ (L : List UInt8) (r : ByteArray), ((L.map fun b => (b.toNat : Int)).foldl (fun (r : ByteArray) (n : Int) => r.push (UInt8.ofNat n.toNat)) r).data.toList = r.data.toList ++ L
  | [], r => by simp
  | b :: L, r => by
    simp only [List.map_cons, List.foldl_cons]
    rw [foldl_bytes L]
    simp [ByteArray.push]

theorem run_bytes_str {w : World} {v : Value} {L : List UInt8} (src dst e : TypeId) (h : Bytes w v L) (hs : P.underlying src = some (.slice e)) (he : P.underlying e = some (.int .u8)) (hd : P.underlying dst = some .string) :
    (convert src dst v).run P w = .ok (.string ⟨L.toArray⟩) w := by
  have h' := h
  obtain ⟨ao, cap, rfl, hn, hl, h3, h4⟩ := h
  rw [run_convert_bytes_string w src dst e ao L.length cap hs he hd]
  cases ao with
  | none =>
    have h0 := h3 rfl
    have : L = [] := List.eq_nil_of_length_eq_zero (by omega)
    subst this
    simp [Conv.bytesToString]
    rfl
  | some a =>
    have hsrc := h'.src (P := P) hs (byt_one L)
    have hc : (loadCells a L.length).run P w = .ok ((L.map fun b => (b.toNat : Int)).map (Value.int .u8)).toArray w := by
      have := hsrc.cells
      simp only [Builtin.firstCells, Nat.mul_one] at this
      rw [this]
      simp [byt]
    rw [run_bytesToString w a L.length cap _ hc]
    congr 2
    have := foldl_bytes L ByteArray.empty
    generalize (L.map fun b => (b.toNat : Int)).foldl (fun (r : ByteArray) (n : Int) => r.push (UInt8.ofNat n.toNat)) ByteArray.empty = r at this
    cases r
    congr 1
    apply Array.ext'
    simpa using this
end

theorem splice_two {α : Type} (Z A B : List α) (h : Z.length = A.length + B.length) : splice (splice Z 0 A) A.length B = A ++ B := by
  have e1 : splice Z 0 A = A ++ Z.drop A.length := by simp [splice]
  rw [e1]
  unfold splice
  rw [List.take_left' rfl]
  have e2 : (A ++ Z.drop A.length).drop (A.length + B.length) = [] := by
    apply List.drop_eq_nil_of_le
    simp; omega
  rw [e2, List.append_nil]

theorem splice_two_at {α : Type} (Z A B : List α) (k : Nat) (hk : A.length = k) (h : Z.length = k + B.length) : splice (splice Z 0 A) k B = A ++ B := by
  subst hk; exact splice_two Z A B h
/-- A row that is known whole, as the call's own. -/
theorem own_row {w : World} {base g e n : Nat} {xs : List Value} (hg : w.heap[g]? = some (.cells xs.toArray e (0, 0))) (hb : base ≤ g) (hl : xs.length = n) (hn : n ≤ 9223372036854775807) : w.ownsRow base e 1 (.slice (some ⟨g, 0, none⟩) n n) n xs :=
  ⟨by omega, .inr ⟨g, n, xs.toArray, rfl, hb, hg, Nat.le_refl _, by unfold maxLen; omega, by simp [hl], by rw [Nat.mul_one, ← hl]; simp⟩⟩

/-- A guard: the operation that stands next is a copy of these operands. -/
theorem at_copy {P : Program} {ops : Array Oper} {Q : Exit → Act → World → Prop} {rest : List Oper} {a : Act} {w : World} {d : Option Tmp} {args : Array Operand} {ats : Array TypeId} {t : TypeId} {pos : String} {aft : Array Edge} {g : Option (Nat × Bool)}
    (h : wpList P ops Q (⟨d, .call ⟨.builtin .copy, args, ats⟩, t, pos, aft, g⟩ :: rest) a w) : wpList P ops Q (⟨d, .call ⟨.builtin .copy, args, ats⟩, t, pos, aft, g⟩ :: rest) a w := h
/-- A guard: the operation that stands next is an append of these operands. -/
theorem at_append {P : Program} {ops : Array Oper} {Q : Exit → Act → World → Prop} {rest : List Oper} {a : Act} {w : World} {d : Option Tmp} {args : Array Operand} {ats : Array TypeId} {t : TypeId} {pos : String} {aft : Array Edge} {g : Option (Nat × Bool)}
    (h : wpList P ops Q (⟨d, .call ⟨.builtin .append, args, ats⟩, t, pos, aft, g⟩ :: rest) a w) : wpList P ops Q (⟨d, .call ⟨.builtin .append, args, ats⟩, t, pos, aft, g⟩ :: rest) a w := h

/-- copy into a row that is known whole. -/
theorem wpList_copy_sl {P : Program} {w : World} {ops : Array Oper} {rest : List Oper} {o : Oper} {a : Act} {Q : Exit → Act → World → Prop} (hgd : o.guard = none) (d s : Operand) (dT : TypeId)
    (ho : o.op = .call { callee := .builtin .copy, args := #[d, s], argTypes := #[dT, dT] }) (elem : TypeId) (hu : P.underlying dT = some (.slice elem)) (hsz : (P.info? elem).map (·.size) = some 1)
    (dp : Option Addr) (dLen dCap n : Nat) (vs : Value) (hd : a.eval d = .slice dp dLen dCap) (hs : a.eval s = vs)
    (g off : Nat) (cur : List Value) (t : TypeId) (hg : w.heap[g]? = some (.cells cur.toArray t (0, 0))) (cs : List Value) (hv : Sl w vs 1 n cs) (hn : n ≤ dLen)
    (hpos : 0 < n → dp = some ⟨g, off, none⟩) (hfit : off + n ≤ cur.length) (h1 : ∀ v ∈ cs, v.oneCell' = true)
    (h : ∀ w', w'.heap[g]? = some (.cells (splice cur off cs).toArray t (0, 0)) → Below g w w' → w'.heap.size = w.heap.size → wpList P ops Q rest (a.put o.dst (goInt n)) w') :
    wpList P ops Q (o :: rest) a w := by
  have hl := hv.len
  rw [Nat.mul_one] at hl
  obtain ⟨ao, cap, rfl, h2, h3, h4, h5⟩ := hv
  by_cases h0 : n = 0
  · subst h0
    obtain rfl : cs = [] := List.eq_nil_of_length_eq_zero (by omega)
    refine wpList_copy_nothing hgd d s dT dT ho elem hu hsz dp ao dLen dCap 0 cap hd hs (by simp) ?_
    exact h w (by simpa [splice] using hg) (Below.refl _ _) rfl
  · obtain ⟨g', off', rfl, _, hc⟩ := h5 (by omega)
    have hp := hpos (by omega)
    subst hp
    have := wpList_copy_own (P := P) (w := w) (ops := ops) (rest := rest) (o := o) (a := a) (Q := Q) hgd d s dT dT ho elem hu hsz g off dLen dCap ⟨g', off', none⟩ n cap hd hs cur.toArray t hg cs (by rw [hl]; simp [Nat.min_def]; omega)
      (fun j v hj => by rw [show (⟨g', off', none⟩ : Addr).add j = ⟨g', off' + j, none⟩ from by simp [Addr.add]]; exact hc j v hj) (by simp; omega) h1
    refine this ?_
    rw [hl]
    refine h _ ?_ (below_setRow (Below.refl _ _) (Nat.le_refl _) _) (by simp [World.setRow])
    have := setRow_heap w g cur.toArray (cur.toArray.toList.take off ++ (cs ++ cur.toArray.toList.drop (off + cs.length))).toArray t (0, 0) hg
    rw [hl] at this
    rw [this]
    simp [splice, hl]

/-- make([]T, n) of one-cell elements: the new row is known whole. -/
theorem wpList_make_sl {P : Program} {w : World} {ops : Array Oper} {rest : List Oper} {o : Oper} {a : Act} {Q : Exit → Act → World → Prop}
    (hg : o.guard = none) (l c : Operand) (t : TypeId) (hop : o.op = Op.makeSlice t l c) (e : TypeId) (i : TypeInfo) (z : Value) (h1 : P.underlying t = some (.slice e)) (h2 : P.info? e = some i) (h3 : i.zero = some z) (h4 : i.size = 1) (hz : z.cells.size = 1)
    (kl kc : IntKind) (L C : Int) (n : Nat) (hl : a.eval l = .int kl L) (hc : a.eval c = .int kc C) (hL : L = (n : Int)) (hC : C = (n : Int)) (b2 : i.bytes * n ≤ 281474976710656) (b3 : n ≤ 9223372036854775807)
    (hK : ∀ w' (cur : List Value), cur.length = n → w'.heap[w.heap.size]? = some (.cells cur.toArray e (0, 0)) → Fr none' w w' → wpList P ops Q rest (a.put o.dst (.slice (some ⟨w.heap.size, 0, none⟩) n n)) w') :
    wpList P ops Q (o :: rest) a w := by
  refine wpList_make_full w hg l c t hop w.heap.size e i z 1 h1 h2 h3 h4 kl kc L C n hl hc hL hC b2 (by unfold maxLen; omega) (Nat.le_refl _) ?_
  intro w' hown hgr
  obtain ⟨hlen, h⟩ := hown
  have F : Fr none' w w' := Fr.grown (Fr.refl _ _) hgr (fun k hk => by cases hk)
  rcases h with ⟨h, _⟩ | ⟨g, cap, cur, he, _, hh, _, _, hs, _⟩
  · cases h
  · have he' : some (⟨w.heap.size, 0, none⟩ : Addr) = some ⟨g, 0, none⟩ ∧ n = cap := by
      injection he with a1 a2 a3
      exact ⟨a1, a3⟩
    obtain ⟨e1, rfl⟩ := he'
    injection e1 with e1
    injection e1 with e1
    subst e1
    exact hK w' cur.toList (by simpa using hs) (by simpa using hh) F

end Go.Proofs.YtmhicplhfbnpaaaDoor
