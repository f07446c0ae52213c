/-
  gimbal/item and gimbal/entry: Same; the references' likewise.
-/
import Derived.Test.YtmhicplhfbnpaaaDoorItemA
import Derived.Laws.StructEq
namespace Go.Proofs.YtmhicplhfbnpaaaDoor
set_option linter.unusedVariables false
set_option linter.unusedSimpArgs false
open Go.RowKit
variable {F G : Nat → Prop}

theorem toList_inj (a b : ByteArray) : (a.toList == b.toList) = decide (a = b) := by
  rw [ByteArray.toList_eq, ByteArray.toList_eq]
  obtain ⟨⟨x⟩⟩ := a
  obtain ⟨⟨y⟩⟩ := b
  rw [Bool.eq_iff_iff]
  simp

theorem fieldsOf_eq {P : Program} {t : TypeId} {fs : Array Field} (h : P.underlying t = some (.struct fs)) : P.fieldsOf t = fs := by unfold Program.fieldsOf; rw [h]
theorem line_neq (a b : Line) (w : World) : (binOp .neq 71 (.agg #[.string a.sku, .int .i64 a.n]) (.agg #[.string b.sku, .int .i64 b.n])).run Tryd.prog w = .ok (.bool (!decide (a = b))) w := by
  have hf := fieldsOf_eq Tryd.underlying71
  rw [run_neq_struct, run_equalIn_agg w 9999 71 _ _ (by rw [hf]; exact Tryd.underlying71) (by kernel_rfl), hf]
  simp [Op.eqFields, part, run_equalIn_string w _ _ _ _ Tryd.underlying9, run_equalIn_int w _ _ _ _ _ _ Tryd.underlying3]
  obtain ⟨s, n⟩ := a
  obtain ⟨t, m⟩ := b
  have h1 : s.toList = t.toList ↔ s = t := by rw [← beq_iff_eq, toList_inj]; simp
  by_cases e1 : s = t <;> by_cases e2 : n = m <;> simp [h1, e1, e2]

theorem drewN_cell (w : World) (n : Nat) (a : Addr) : (w.drewN n).cell? a = w.cell? a := by
  induction n generalizing w with
  | zero => rfl
  | succ n ih => exact ih w.drew
theorem drewN_add (w : World) (n m : Nat) : (w.drewN n).drewN m = w.drewN (n + m) := World.drewN_drewN ..

theorem ret_bool {a b : Bool} (h : a = b) : Ending.returned (.bool a) = .returned (.bool b) := by rw [h]

theorem eq_of_get {X : Type} {ls ms : List X} {n : Nat} (h : ls.length = n) (h' : ms.length = n) (he : ∀ j, j < n → ls[j]? = ms[j]?) : ls = ms := by
  apply List.ext_getElem?
  intro j
  rcases Nat.lt_or_ge j n with hj | hj
  · exact he j hj
  · rw [List.getElem?_eq_none (by omega), List.getElem?_eq_none (by omega)]

set_option maxHeartbeats 1000000 in
theorem lequal_any (u v : Value) (ls ms : List Line) (w : World) (h : LinesAt F w u ls) (h' : LinesAt G w v ms) (hl : ls.length ≤ 5864062014634) (hl' : ms.length ≤ 5864062014634) :
    Calls Tryd.prog 51 #[u, v] w fun e w' => e = .returned (.bool (decide (ls = ms))) ∧ ∃ n, w' = w.drewN n := by
  obtain ⟨a, c, rfl⟩ := h.cells
  obtain ⟨a', c', rfl⟩ := h'.cells
  by_cases hne : ls.length = ms.length
  · obtain ⟨len, hlen⟩ : ∃ len, len = ls.length := ⟨_, rfl⟩
    have H := Lib.hid h
    have H' := Lib.hid h'
    have hA := Lib.hid hlen
    have hB := Lib.hid (hlen.trans hne)
    rw [← hlen] at hl
    rw [← hne, ← hlen]
    clear h h' hlen hne hl'
    go_enter Tryd.func51, Tryd.ntmps51
    go_wp2_with fail
    go_loopw [13] (fun i wr => ∃ k n : Nat, i = .int .i64 k ∧ k ≤ len ∧ (∀ j, j < k → ls[j]? = ms[j]?) ∧ wr = w.drewN n) (fun i _ => len - (intOf i).toNat)
    case atStart => exact ⟨0, 0, rfl, Nat.zero_le _, fun j hj => absurd hj (by omega), rfl⟩
    case round =>
      obtain ⟨k, n, rfl, hk, hj, rfl⟩ := hrel
      have hjh := Lib.hid hj
      clear hj
      by_cases hlt : k < len
      · obtain ⟨b, o, rfl, -, p0, p1⟩ := H.out.elem k (by rw [← hA.out]; exact hlt)
        obtain ⟨b', o', rfl, -, p0', p1'⟩ := H'.out.elem k (by rw [← hB.out]; exact hlt)
        have hq := line_neq (ls[k]'(by rw [← hA.out]; exact hlt)) (ms[k]'(by rw [← hB.out]; exact hlt))
        have e1 : ls[k]? = some (ls[k]'(by rw [← hA.out]; exact hlt)) := List.getElem?_eq_getElem _
        have e2 : ms[k]? = some (ms[k]'(by rw [← hB.out]; exact hlt)) := List.getElem?_eq_getElem _
        obtain ⟨x, hx⟩ : ∃ x, x = ls[k]'(by rw [← hA.out]; exact hlt) := ⟨_, rfl⟩
        obtain ⟨y, hy⟩ : ∃ y, y = ms[k]'(by rw [← hB.out]; exact hlt) := ⟨_, rfl⟩
        rw [← hx] at hq p0 p1 e1
        rw [← hy] at hq p0' p1' e2
        have e1' := Lib.hid e1
        have e2' := Lib.hid e2
        clear hx hy e1 e2
        by_cases hxy : x = y
        · subst hxy
          have hq' : ∀ w, (binOp .neq 71 (.agg #[.string x.sku, .int .i64 x.n]) (.agg #[.string x.sku, .int .i64 x.n])).run Tryd.prog w = .ok (.bool false) w := fun w => by rw [hq]; simp
          clear hq
          go_wp2_with fail
          go_quiet (fail)
          go_wp2_with fail
          go_roundw
          case rel => exact ⟨k + 1, _, by go_num, by omega, fun j hj => by
            rcases Nat.lt_or_ge j k with h | h
            · exact hjh.out j h
            · obtain rfl : j = k := by omega
              rw [e1'.out, e2'.out], rfl⟩
          case measure => simp [intOf]; omega
        · have hq' : ∀ w, (binOp .neq 71 (.agg #[.string x.sku, .int .i64 x.n]) (.agg #[.string y.sku, .int .i64 y.n])).run Tryd.prog w = .ok (.bool true) w := fun w => by rw [hq]; simp [hxy]
          have hxy' := Lib.hid hxy
          clear hq hxy
          go_wp2_with fail
          go_quiet (fail)
          go_wp2_with fail
          go_ret
          exact ⟨ret_bool (decide_eq_false (fun e => hxy'.out (by subst e; have := e1'.out.symm.trans e2'.out; exact Option.some.inj this))).symm, _, drewN_add _ _ _⟩
      · go_wp2_with fail
        go_ret
        exact ⟨ret_bool (decide_eq_true (eq_of_get hA.out.symm hB.out.symm (fun j hj => hjh.out j (by omega)))).symm, _, rfl⟩
  · have e : decide (ls = ms) = false := decide_eq_false (fun e => hne (by rw [e]))
    have hne' : ((ls.length : Int) != (ms.length : Int)) = true := by simp; omega
    have e' := Lib.hid e
    clear hne e h h'
    go_enter Tryd.func51, Tryd.ntmps51
    go_wp2_with fail
    go_ret
    exact ⟨ret_bool e'.out.symm, 0, rfl⟩


/-- Do two ops agree? -/
def Ent.sameOp (x y : Ent) : Bool := decide (x.kind = y.kind ∧ x.sku = y.sku ∧ x.order = y.order ∧ x.n = y.n ∧ x.lines = y.lines)
theorem Ent.same_iff (x y : Ent) : decide (x = y) = (decide (x.client = y.client) && (decide (x.num = y.num) && x.sameOp y)) := by
  obtain ⟨a1, a2, a3, a4, a5, a6, a7⟩ := x
  obtain ⟨b1, b2, b3, b4, b5, b6, b7⟩ := y
  simp only [Ent.sameOp, Ent.mk.injEq, Bool.decide_and]
theorem Ent.sameOp_false {x y : Ent} (h : ¬ (x.kind = y.kind ∧ x.sku = y.sku ∧ x.order = y.order ∧ x.n = y.n)) : x.sameOp y = false := decide_eq_false (fun e => h ⟨e.1, e.2.1, e.2.2.1, e.2.2.2.1⟩)
theorem Ent.sameOp_lines {x y : Ent} (h1 : x.kind = y.kind) (h2 : x.sku = y.sku) (h3 : x.order = y.order) (h4 : x.n = y.n) : x.sameOp y = decide (x.lines = y.lines) := by
  simp [Ent.sameOp, h1, h2, h3, h4]
theorem sku_ne {x y : ByteArray} (h : ¬ x = y) : (x.toList == y.toList) = false := by rw [toList_inj]; exact decide_eq_false h
theorem int_ne {x y : Int} (h : ¬ x = y) : (x == y) = false := by simpa using h

set_option maxHeartbeats 1000000 in
theorem isame_any (x y : Ent) (u v : Value) (w : World) (h : LinesAt F w u x.lines) (h' : LinesAt G w v y.lines) (hl : x.lines.length ≤ 5864062014634) (hl' : y.lines.length ≤ 5864062014634) :
    Calls Tryd.prog 46 #[.agg #[.int .i64 x.kind, .string x.sku, .int .i64 x.order, .int .i64 x.n, u], .agg #[.int .i64 y.kind, .string y.sku, .int .i64 y.order, .int .i64 y.n, v]] w fun e w' => e = .returned (.bool (x.sameOp y)) ∧ Fr none' w w' := by
  obtain ⟨a, c, rfl⟩ := h.cells
  obtain ⟨a', c', rfl⟩ := h'.cells
  have fa : Fr none' w ((w.alloc (.cells #[.int .i64 x.kind, .string x.sku, .int .i64 x.order, .int .i64 x.n, .slice a x.lines.length c] 32)).alloc (.cells #[.int .i64 y.kind, .string y.sku, .int .i64 y.order, .int .i64 y.n, .slice a' y.lines.length c'] 32)) := ((Fr.refl _ _).alloc _).alloc _
  have hfa := Lib.hid fa
  have H := Lib.hid (h.keep0 fa)
  have H' := Lib.hid (h'.keep0 fa)
  clear fa h h'
  by_cases e0 : x.kind = y.kind
  · have E0 := Lib.hid e0
    rw [e0] at hfa H H' ⊢
    clear e0
    by_cases e1 : x.sku = y.sku
    · have E1 := Lib.hid e1
      rw [e1] at hfa H H' ⊢
      clear e1
      by_cases e2 : x.order = y.order
      · have E2 := Lib.hid e2
        rw [e2] at hfa H H' ⊢
        clear e2
        by_cases e3 : x.n = y.n
        · have E3 := Lib.hid e3
          rw [e3] at hfa H H' ⊢
          clear e3
          go_enter Tryd.func46, Tryd.ntmps46
          go_wp2_with fail
          refine (lequal_any _ _ _ _ _ H.out H'.out hl hl').mono ?_
          rintro e w1 ⟨rfl, n, rfl⟩
          go_wp2_with fail
          go_ret
          exact ⟨ret_bool (Ent.sameOp_lines E0.out E1.out E2.out E3.out).symm, hfa.out.drewN n⟩
        · have q3 := int_ne e3
          have E3 := Lib.hid e3
          clear e3
          go_enter Tryd.func46, Tryd.ntmps46
          go_wp2_with fail
          go_ret
          exact ⟨ret_bool (Ent.sameOp_false (fun h => E3.out h.2.2.2)).symm, hfa.out⟩
      · have q2 := int_ne e2
        have E2 := Lib.hid e2
        clear e2
        go_enter Tryd.func46, Tryd.ntmps46
        go_wp2_with fail
        go_ret
        exact ⟨ret_bool (Ent.sameOp_false (fun h => E2.out h.2.2.1)).symm, hfa.out⟩
    · have q1 := sku_ne e1
      have E1 := Lib.hid e1
      clear e1
      go_enter Tryd.func46, Tryd.ntmps46
      go_wp2_with fail
      go_ret
      exact ⟨ret_bool (Ent.sameOp_false (fun h => E1.out h.2.1)).symm, hfa.out⟩
  · have q0 := int_ne e0
    have E0 := Lib.hid e0
    clear e0
    go_enter Tryd.func46, Tryd.ntmps46
    go_wp2_with fail
    go_ret
    exact ⟨ret_bool (Ent.sameOp_false (fun h => E0.out h.1)).symm, hfa.out⟩

set_option maxHeartbeats 1000000 in
theorem esame_any (x y : Ent) (u v : Value) (w : World) (h : LinesAt F w u x.lines) (h' : LinesAt G w v y.lines) (hl : x.lines.length ≤ 5864062014634) (hl' : y.lines.length ≤ 5864062014634) :
    Calls Tryd.prog 32 #[.agg #[.int .i64 x.client, .int .i64 x.num, .int .i64 x.kind, .string x.sku, .int .i64 x.order, .int .i64 x.n, u], .agg #[.int .i64 y.client, .int .i64 y.num, .int .i64 y.kind, .string y.sku, .int .i64 y.order, .int .i64 y.n, v]] w fun e w' => e = .returned (.bool (decide (x = y))) ∧ Fr none' w w' := by
  obtain ⟨a, c, rfl⟩ := h.cells
  obtain ⟨a', c', rfl⟩ := h'.cells
  have fa : Fr none' w ((w.alloc (.cells #[.int .i64 x.client, .int .i64 x.num, .int .i64 x.kind, .string x.sku, .int .i64 x.order, .int .i64 x.n, .slice a x.lines.length c] 34)).alloc (.cells #[.int .i64 y.client, .int .i64 y.num, .int .i64 y.kind, .string y.sku, .int .i64 y.order, .int .i64 y.n, .slice a' y.lines.length c'] 34)) := ((Fr.refl _ _).alloc _).alloc _
  have hfa := Lib.hid fa
  have H := Lib.hid (h.keep0 fa)
  have H' := Lib.hid (h'.keep0 fa)
  have hiff := Lib.hid (Ent.same_iff x y)
  clear fa h h'
  by_cases e0 : x.client = y.client
  · have E0 := Lib.hid e0
    rw [e0] at hfa H H' ⊢
    clear e0
    by_cases e1 : x.num = y.num
    · have E1 := Lib.hid e1
      rw [e1] at hfa H H' ⊢
      clear e1
      go_enter Tryd.func32, Tryd.ntmps32
      go_wp2_with fail
      refine (isame_any _ _ _ _ _ H.out H'.out hl hl').mono ?_
      rintro e w1 ⟨rfl, f1⟩
      go_wp2_with fail
      go_ret
      exact ⟨ret_bool (by rw [hiff.out]; simp [E0.out, E1.out]), hfa.out.trans f1 (fun _ _ h => h)⟩
    · have q1 := int_ne e1
      have E1 := Lib.hid e1
      clear e1
      go_enter Tryd.func32, Tryd.ntmps32
      go_wp2_with fail
      go_ret
      exact ⟨ret_bool (by rw [hiff.out]; simp [E1.out]), hfa.out⟩
  · have q0 := int_ne e0
    have E0 := Lib.hid e0
    clear e0
    go_enter Tryd.func32, Tryd.ntmps32
    go_wp2_with fail
    go_ret
    exact ⟨ret_bool (by rw [hiff.out]; simp [E0.out]), hfa.out⟩

theorem sku_nb {x y : ByteArray} (h : ¬ x = y) : (x.toList != y.toList) = true := by rw [bne, sku_ne h]; rfl
theorem int_nb {x y : Int} (h : ¬ x = y) : (x != y) = true := by simpa using h

set_option maxHeartbeats 2000000 in
theorem rsame_any (x y : Ent) (u v : Value) (w : World) (h : LinesAt F w u x.lines) (h' : LinesAt G w v y.lines) (hl : x.lines.length ≤ 5864062014634) (hl' : y.lines.length ≤ 5864062014634) :
    Calls Tryd.prog 47 #[.agg #[.int .i64 x.kind, .string x.sku, .int .i64 x.order, .int .i64 x.n, u], .agg #[.int .i64 y.kind, .string y.sku, .int .i64 y.order, .int .i64 y.n, v]] w fun e w' => e = .returned (.bool (x.sameOp y)) ∧ Fr none' w w' := by
  obtain ⟨a, c, rfl⟩ := h.cells
  obtain ⟨a', c', rfl⟩ := h'.cells
  have fa : Fr none' w ((w.alloc (.cells #[.int .i64 x.kind, .string x.sku, .int .i64 x.order, .int .i64 x.n, .slice a x.lines.length c] 32)).alloc (.cells #[.int .i64 y.kind, .string y.sku, .int .i64 y.order, .int .i64 y.n, .slice a' y.lines.length c'] 32)) := ((Fr.refl _ _).alloc _).alloc _
  have hfa := Lib.hid fa
  have H := Lib.hid (h.keep0 fa)
  have H' := Lib.hid (h'.keep0 fa)
  clear fa h h'
  by_cases e0 : x.kind = y.kind
  · have E0 := Lib.hid e0
    rw [e0] at hfa H H' ⊢
    clear e0
    by_cases e1 : x.sku = y.sku
    · have E1 := Lib.hid e1
      rw [e1] at hfa H H' ⊢
      clear e1
      by_cases e2 : x.order = y.order
      · have E2 := Lib.hid e2
        rw [e2] at hfa H H' ⊢
        clear e2
        by_cases e3 : x.n = y.n
        · have E3 := Lib.hid e3
          rw [e3] at hfa H H' ⊢
          clear e3
          have hres := Lib.hid (Ent.sameOp_lines E0.out E1.out E2.out E3.out)
          by_cases hne : x.lines.length = y.lines.length
          · obtain ⟨len, hlen⟩ : ∃ len, len = x.lines.length := ⟨_, rfl⟩
            have hA := Lib.hid hlen
            have hB := Lib.hid (hlen.trans hne)
            rw [← hlen] at hl hfa H H' ⊢
            rw [← hne, ← hlen] at hfa H H' ⊢
            clear hlen hne hl'
            go_enter Tryd.func47, Tryd.ntmps47
            go_wp2_with fail
            obtain ⟨w2, hw2⟩ : ∃ w2, w2 = (w.alloc (.cells #[.int .i64 y.kind, .string y.sku, .int .i64 y.order, .int .i64 y.n, .slice a len c] 32)).alloc (.cells #[.int .i64 y.kind, .string y.sku, .int .i64 y.order, .int .i64 y.n, .slice a' len c'] 32) := ⟨_, rfl⟩
            have m1 : w2.cell? ⟨w.heap.size, 4, none⟩ = some (.slice a len c) := by rw [hw2]; exact cell_of_blk (blk_alloc_old (by simp) |>.trans (blk_alloc_new rfl)) rfl
            have m2 : w2.cell? ⟨w.heap.size + 1, 4, none⟩ = some (.slice a' len c') := by rw [hw2]; exact cell_of_blk (blk_alloc_new (by simp)) rfl
            rw [← hw2] at hfa H H' ⊢
            clear hw2
            go_loopw [5] (fun i wr => ∃ k n : Nat, i = .int .i64 k ∧ k ≤ len ∧ (∀ j, j < k → x.lines[j]? = y.lines[j]?) ∧ wr = w2.drewN n) (fun i _ => len - (intOf i).toNat)
            case atStart => exact ⟨0, 0, rfl, Nat.zero_le _, fun j hj => absurd hj (by omega), rfl⟩
            case round =>
              obtain ⟨k, n, rfl, hk, hj, rfl⟩ := hrel
              have hjh := Lib.hid hj
              clear hj
              by_cases hlt : k < len
              · have hlt1 : k < x.lines.length := by rw [← hA.out]; exact hlt
                have hlt2 : k < y.lines.length := by rw [← hB.out]; exact hlt
                have T1 := H.out
                have T2 := H'.out
                rw [hA.out] at T1
                rw [hB.out] at T2
                obtain ⟨b, o, rfl, -, p0, p1⟩ := T1.elem k hlt1
                obtain ⟨b', o', rfl, -, p0', p1'⟩ := T2.elem k hlt2
                clear T1 T2
                have hq := line_neq x.lines[k] y.lines[k]
                have e1 : x.lines[k]? = some x.lines[k] := List.getElem?_eq_getElem _
                have e2 : y.lines[k]? = some y.lines[k] := List.getElem?_eq_getElem _
                obtain ⟨x', hx⟩ : ∃ x', x' = x.lines[k] := ⟨_, rfl⟩
                obtain ⟨y', hy⟩ : ∃ y', y' = y.lines[k] := ⟨_, rfl⟩
                rw [← hx] at hq p0 p1 e1
                rw [← hy] at hq p0' p1' e2
                have e1' := Lib.hid e1
                have e2' := Lib.hid e2
                clear hx hy e1 e2 hlt1 hlt2
                by_cases hxy : x' = y'
                · subst hxy
                  have hq' : ∀ w, (binOp .neq 71 (.agg #[.string x'.sku, .int .i64 x'.n]) (.agg #[.string x'.sku, .int .i64 x'.n])).run Tryd.prog w = .ok (.bool false) w := fun w => by rw [hq]; simp
                  clear hq
                  go_wp2_with fail
                  go_quiet (fail)
                  go_wp2_with fail
                  go_roundw
                  case rel => exact ⟨k + 1, _, by go_num, by omega, fun j hj => by
                    rcases Nat.lt_or_ge j k with h | h
                    · exact hjh.out j h
                    · obtain rfl : j = k := by omega
                      rw [e1'.out, e2'.out], rfl⟩
                  case measure => simp [intOf]; omega
                · have hq' : ∀ w, (binOp .neq 71 (.agg #[.string x'.sku, .int .i64 x'.n]) (.agg #[.string y'.sku, .int .i64 y'.n])).run Tryd.prog w = .ok (.bool true) w := fun w => by rw [hq]; simp [hxy]
                  have hxy' := Lib.hid hxy
                  clear hq hxy
                  go_wp2_with fail
                  go_quiet (fail)
                  go_wp2_with fail
                  go_ret
                  exact ⟨ret_bool (by rw [hres.out]; exact (decide_eq_false (fun e => hxy'.out (by rw [e] at e1'; have := e1'.out.symm.trans e2'.out; exact Option.some.inj this))).symm), (hfa.out.drewN _).drewN _⟩
              · go_wp2_with fail
                go_ret
                exact ⟨ret_bool (by rw [hres.out]; exact (decide_eq_true (eq_of_get hA.out.symm hB.out.symm (fun j hj => hjh.out j (by omega)))).symm), hfa.out.drewN _⟩
          · have e : decide (x.lines = y.lines) = false := decide_eq_false (fun e => hne (by rw [e]))
            have hne' : ((x.lines.length : Int) != (y.lines.length : Int)) = true := by simp; omega
            have e' := Lib.hid e
            clear hne e H H'
            go_enter Tryd.func47, Tryd.ntmps47
            go_wp2_with fail
            go_ret
            exact ⟨ret_bool (by rw [hres.out, e'.out]), hfa.out⟩
        · have q3 := int_nb e3
          have E3 := Lib.hid e3
          clear e3
          go_enter Tryd.func47, Tryd.ntmps47
          go_wp2_with fail
          go_ret
          exact ⟨ret_bool (Ent.sameOp_false (fun h => E3.out h.2.2.2)).symm, hfa.out⟩
      · have q2 := int_nb e2
        have E2 := Lib.hid e2
        clear e2
        go_enter Tryd.func47, Tryd.ntmps47
        go_wp2_with fail
        go_ret
        exact ⟨ret_bool (Ent.sameOp_false (fun h => E2.out h.2.2.1)).symm, hfa.out⟩
    · have q1 := sku_ne e1
      have E1 := Lib.hid e1
      clear e1
      go_enter Tryd.func47, Tryd.ntmps47
      go_wp2_with fail
      go_ret
      exact ⟨ret_bool (Ent.sameOp_false (fun h => E1.out h.2.1)).symm, hfa.out⟩
  · have q0 := int_nb e0
    have E0 := Lib.hid e0
    clear e0
    go_enter Tryd.func47, Tryd.ntmps47
    go_wp2_with fail
    go_ret
    exact ⟨ret_bool (Ent.sameOp_false (fun h => E0.out h.1)).symm, hfa.out⟩

set_option maxHeartbeats 1000000 in
theorem resame_any (x y : Ent) (u v : Value) (w : World) (h : LinesAt F w u x.lines) (h' : LinesAt G w v y.lines) (hl : x.lines.length ≤ 5864062014634) (hl' : y.lines.length ≤ 5864062014634) :
    Calls Tryd.prog 35 #[.agg #[.int .i64 x.client, .int .i64 x.num, .int .i64 x.kind, .string x.sku, .int .i64 x.order, .int .i64 x.n, u], .agg #[.int .i64 y.client, .int .i64 y.num, .int .i64 y.kind, .string y.sku, .int .i64 y.order, .int .i64 y.n, v]] w fun e w' => e = .returned (.bool (decide (x = y))) ∧ Fr none' w w' := by
  obtain ⟨a, c, rfl⟩ := h.cells
  obtain ⟨a', c', rfl⟩ := h'.cells
  have fa : Fr none' w ((w.alloc (.cells #[.int .i64 x.client, .int .i64 x.num, .int .i64 x.kind, .string x.sku, .int .i64 x.order, .int .i64 x.n, .slice a x.lines.length c] 34)).alloc (.cells #[.int .i64 y.client, .int .i64 y.num, .int .i64 y.kind, .string y.sku, .int .i64 y.order, .int .i64 y.n, .slice a' y.lines.length c'] 34)) := ((Fr.refl _ _).alloc _).alloc _
  have hfa := Lib.hid fa
  have H := Lib.hid (h.keep0 fa)
  have H' := Lib.hid (h'.keep0 fa)
  have hiff := Lib.hid (Ent.same_iff x y)
  clear fa h h'
  by_cases e0 : x.client = y.client
  · have E0 := Lib.hid e0
    rw [e0] at hfa H H' ⊢
    clear e0
    by_cases e1 : x.num = y.num
    · have E1 := Lib.hid e1
      rw [e1] at hfa H H' ⊢
      clear e1
      go_enter Tryd.func35, Tryd.ntmps35
      go_wp2_with fail
      refine (rsame_any _ _ _ _ _ H.out H'.out hl hl').mono ?_
      rintro e w1 ⟨rfl, f1⟩
      go_wp2_with fail
      go_ret
      exact ⟨ret_bool (by rw [hiff.out]; simp [E0.out, E1.out]), hfa.out.trans f1 (fun _ _ h => h)⟩
    · have q1 := int_ne e1
      have E1 := Lib.hid e1
      clear e1
      go_enter Tryd.func35, Tryd.ntmps35
      go_wp2_with fail
      go_ret
      exact ⟨ret_bool (by rw [hiff.out]; simp [E1.out]), hfa.out⟩
  · have q0 := int_ne e0
    have E0 := Lib.hid e0
    clear e0
    go_enter Tryd.func35, Tryd.ntmps35
    go_wp2_with fail
    go_ret
    exact ⟨ret_bool (by rw [hiff.out]; simp [E0.out]), hfa.out⟩

end Go.Proofs.YtmhicplhfbnpaaaDoor
