/-
  Rows of entries of the call's own; gimbalref04.CopyRow and SameRow.
-/
import Derived.Test.YtmhicplhfbnpaaaDoorItemS
import Derived.Test.YtmhicplhfbnpaaaDoorSl2
import Derived.Deep.RegionHeld3
namespace Go.Proofs.YtmhicplhfbnpaaaDoor
set_option linter.unusedVariables false
set_option linter.unusedSimpArgs false
open Go.RowKit
variable {F G : Nat → Prop}

theorem wpList_app_own2 {P : Program} {w : World} {ops : Array Oper} {rest : List Oper} {o : Oper} {a : Act} {Q : Exit → Act → World → Prop} (hgd : o.guard = none) (s x : Operand) (t : TypeId)
    (ho : o.op = .call { callee := .builtin .append, args := #[s, x], argTypes := #[t, t] })
    (base : Nat) (e : TypeId) (i : TypeInfo) (z : Value) (size bytes : Nat) (ht : P.underlying t = some (.slice e)) (hi : P.info? e = some i) (hz : i.zero = some z)
    (hsize : i.size = size) (hby : i.bytes = bytes) (hzs : z.cells.size = size) (hsz : 0 < size)
    (v : Value) (n : Nat) (xs : List Value) (hs : a.eval s = v) (hown : w.ownsRow base e size v n xs)
    (vx : Value) (m : Nat) (news : List Value) (hx : a.eval x = vx) (hv : Sl w vx size m news) (h1 : ∀ u ∈ news, u.oneCell' = true)
    (h63 : n + m ≤ 9223372036854775807) (hbytes : (n + m) * bytes ≤ 140737488355328) (hbase : base ≤ w.heap.size)
    (h : ∀ v' w', w'.ownsRow base e size v' (n + m) (xs ++ news) → w.grownBy w' v.ownBlock → (v'.ownBlock = v.ownBlock ∨ v'.ownBlock = some w.heap.size) → wpList P ops Q rest (a.put o.dst v') w') : wpList P ops Q (o :: rest) a w := by
  refine wpList_plain hgd fun K hK' => ?_
  obtain ⟨v', w', hrun, r1, r2, r3⟩ := run_app_own_sl (P := P) t o.type base e i z size bytes ht hi hz hsize hby hzs hsz v n xs hown vx m news hv h1 h63 hbytes hbase
  unfold Oper.wp
  simp [execOp, ho, resolve, invoke, builtin, hs, hx, hrun, Result.andThen]
  exact hK' _ _ (h v' w' r1 r2 r3)

theorem Tryd.infoEnt : (Tryd.prog.info? 34).map (fun i => (i.zero, i.size, i.bytes)) = some (some (.agg #[.int .i64 0, .int .i64 0, .int .i64 0, .string ⟨#[]⟩, .int .i64 0, .int .i64 0, .slice none 0 0]), 7, 80) := by kernel_rfl

/-- A row of entries of the call's own, whose lines lie in other blocks of the call's own. -/
structure OwnEnts (B : Nat) (w : World) (v : Value) (ys : List EV) : Prop where
  own : w.ownsRow B 34 7 v ys.length (entc ys)
  lines : ∀ y ∈ ys, LinesAt (fun b => B ≤ b ∧ v.ownBlock ≠ some b) w y.v y.e.lines
theorem OwnEnts.nil (B : Nat) (w : World) : OwnEnts B w (.slice none 0 0) [] := ⟨World.ownsRow_nil _ _ _ _, fun _ h => by cases h⟩
theorem OwnEnts.keep {B : Nat} {S : Nat → Prop} {w w' : World} {v : Value} {ys : List EV} (h : OwnEnts B w v ys) (f : Fr S w w') (hS : ∀ b, B ≤ b → b < w.heap.size → ¬ S b) : OwnEnts B w' v ys :=
  ⟨ownsRow_keep h.own f (fun b hb => hS b (ownsRow_block h.own b hb).1 (ownsRow_block h.own b hb).2), fun y hy => (h.lines y hy).keep f (fun b hb hl => hS b hb.1 hl)⟩
theorem OwnEnts.keep0 {B : Nat} {w w' : World} {v : Value} {ys : List EV} (h : OwnEnts B w v ys) (f : Fr none' w w') : OwnEnts B w' v ys := h.keep f (fun _ _ _ h => h)
theorem OwnEnts.base {B B' : Nat} {w : World} {v : Value} {ys : List EV} (h : OwnEnts B w v ys) (hb : B' ≤ B) : OwnEnts B' w v ys := ⟨ownsRow_base h.own hb, fun y hy => (h.lines y hy).mono (fun b e => ⟨by have := e.1; omega, e.2⟩)⟩
theorem OwnEnts.ents {B : Nat} {w : World} {v : Value} {ys : List EV} (h : OwnEnts B w v ys) : EntsAt (fun b => B ≤ b ∧ b < w.heap.size) w v ys :=
  ⟨Sl.of_own h.own, In.own h.own, fun y hy => ⟨(h.lines y hy).sl, ((h.lines y hy).mem.live (by decide) (h.lines y hy).sl).mono (fun b e => ⟨e.1.1, e.2⟩)⟩⟩
/-- One more. -/
theorem OwnEnts.push {B : Nat} {w w' : World} {v v' : Value} {ys : List EV} {x : EV} (h : OwnEnts B w v ys) (hx : LinesAt (fun b => B ≤ b ∧ v.ownBlock ≠ some b) w x.v x.e.lines) (hB : B ≤ w.heap.size)
    (ho : w'.ownsRow B 34 7 v' (ys.length + 1) (entc ys ++ x.cells)) (hg : w.grownBy w' v.ownBlock) (hv : v'.ownBlock = v.ownBlock ∨ v'.ownBlock = some w.heap.size) : OwnEnts B w' v' (ys ++ [x]) := by
  have F : Fr (fun b => v.ownBlock = some b) w w' := Fr.grown (Fr.refl _ _) hg (fun k hk => .inr hk)
  refine ⟨?_, fun y hy => ?_⟩
  · rw [List.length_append, List.length_singleton]
    have e : entc (ys ++ [x]) = entc ys ++ x.cells := by unfold entc; rw [List.flatMap_append]; simp
    rw [e]; exact ho
  · have hl : LinesAt (fun b => B ≤ b ∧ v.ownBlock ≠ some b) w y.v y.e.lines := by
      rcases List.mem_append.1 hy with hy | hy
      · exact h.lines y hy
      · rw [List.mem_singleton.1 hy]; exact hx
    refine ⟨(hl.keep F (fun b hb _ e => hb.2 e)).sl, (hl.mem.live (by decide) hl.sl).mono (fun b e => ⟨e.1.1, fun e' => ?_⟩)⟩
    rcases hv with hv | hv
    · exact e.1.2 (hv ▸ e')
    · rw [hv] at e'
      injection e' with e'
      have := e.2
      omega

/-- The cells of one entry, new. -/
theorem ent_new (w : World) (x : EV) (c : Array Value) (hc : c = x.cells.toArray) : Sl (w.alloc (.cells c 34)) (.slice (some ⟨w.heap.size, 0, none⟩) 1 1) 7 1 x.cells := by
  subst hc
  refine ⟨_, _, rfl, Nat.le_refl _, rfl, (fun h => by cases h), (fun _ => ⟨_, _, rfl, (fun _ => by simp), fun j u hj => ?_⟩)⟩
  exact cell_of_blk (o := 0 + j) (blk_alloc_new rfl) (by rw [Nat.zero_add]; simpa using hj)
theorem EV.one (x : EV) (h : ∃ a n c, x.v = .slice a n c) : ∀ u ∈ x.cells, u.oneCell' = true := by
  intro u hu
  obtain ⟨a, n, c, h⟩ := h
  simp [EV.cells, Ent.cells] at hu
  rcases hu with rfl | rfl | rfl | rfl | rfl | rfl | rfl <;> first | rfl | (rw [h]; rfl)

def CRow (w : World) (xs : List EV) (k : Nat) (v : Value) (wr : World) : Prop := ∃ ys : List EV, ys.length = k ∧ ys.map EV.e = (xs.take k).map EV.e ∧ OwnEnts w.heap.size wr v ys ∧ Fr none' w wr

set_option maxHeartbeats 2000000 in
theorem copyrow_any (v : Value) (xs : List EV) (w : World) (h : EntsAt F w v xs) (hn : xs.length ≤ 1000000000) (hL : ∀ x ∈ xs, x.e.lines.length ≤ 5864062014634) :
    Calls Tryd.prog 19 #[v] w fun e w' => ∃ v' ys, e = .returned v' ∧ ys.map EV.e = xs.map EV.e ∧ OwnEnts w.heap.size w' v' ys ∧ Fr none' w w' := by
  obtain ⟨i0, hi, hz0, hz1, hz2⟩ := info_parts Tryd.infoEnt
  obtain ⟨a, c, rfl⟩ := h.cells
  have H := Lib.hid h
  have hLh := Lib.hid hL
  clear h hL
  go_enter Tryd.func19, Tryd.ntmps19
  go_wp2_with fail
  go_loopw [3, 4] (fun s i wr => ∃ k : Nat, i = .int .i64 k ∧ k ≤ xs.length ∧ CRow w xs k s wr) (fun _ i _ => xs.length - (intOf i).toNat)
  case atStart => exact ⟨0, rfl, Nat.zero_le _, [], rfl, rfl, OwnEnts.nil _ _, Fr.refl _ _⟩
  case round =>
    obtain ⟨k, rfl, hk, ys, hyl, hye, ho, hf⟩ := hrel
    have hfh := Lib.hid hf
    have hoh := Lib.hid ho
    have hyh := Lib.hid hye
    obtain ⟨sa, sc, rfl⟩ := ho.ents.cells
    rw [hyl] at hoh ⊢
    by_cases hlt : k < xs.length
    · obtain ⟨b, o, rfl, hb, -, hc⟩ := (H.out.keep0 hf).elem k hlt
      have hl := (H.out.keep0 hf).lines _ (List.getElem_mem hlt)
      have hll := hLh.out _ (List.getElem_mem hlt)
      obtain ⟨x, hx⟩ : ∃ x, x = xs[k] := ⟨_, rfl⟩
      have hxh := Lib.hid hx
      rw [← hx] at hc hl hll
      obtain ⟨c0, c1, c2, c3, c4, c5, c6⟩ := hc
      obtain ⟨la, lc, hlv⟩ := hl.cells
      rw [hlv] at c6 hl
      have hyl' := Lib.hid hyl
      clear hf ho hye hx hlv hyl
      go_wp2_with fail
      refine (recopy_any _ _ _ _ _ _ _ _ _ hl hll).mono ?_
      rintro e w1 ⟨v', rfl, hv', f1⟩
      obtain ⟨va, vc, rfl⟩ := hv'.cells
      dsimp only
      have fa : Fr none' w1 (w1.alloc (.cells #[.int .i64 x.e.client, .int .i64 x.e.num, .int .i64 x.e.kind, .string x.e.sku, .int .i64 x.e.order, .int .i64 x.e.n, .slice va x.e.lines.length vc] 34)) := (Fr.refl _ _).alloc _
      have hown := hoh.out.keep0 (f1.trans fa (fun _ _ h => h))
      have hyx := ent_new w1 ⟨x.e, .slice va x.e.lines.length vc⟩ _ rfl
      have hx1 : LinesAt (fun b => w.heap.size ≤ b ∧ (Value.slice sa k sc).ownBlock ≠ some b) (w1.alloc (.cells #[.int .i64 x.e.client, .int .i64 x.e.num, .int .i64 x.e.kind, .string x.e.sku, .int .i64 x.e.order, .int .i64 x.e.n, .slice va x.e.lines.length vc] 34)) (.slice va x.e.lines.length vc) x.e.lines :=
        (hv'.keep0 fa).mono (fun b hb => ⟨Nat.le_trans hfh.out.size hb.1, fun e => by have := (ownsRow_block hoh.out.own b e).2; have := hb.1; omega⟩)
      have F2 := Lib.hid ((hfh.out.trans f1 (fun _ _ h => h)).trans fa (fun _ _ h => h))
      have hsz := Nat.le_trans hfh.out.size f1.size
      have hownh := Lib.hid hown
      have hyxh := Lib.hid hyx
      have hx1h := Lib.hid hx1
      have hrow := hown.own
      rw [hyl'.out] at hrow
      have hrowh := Lib.hid hrow
      clear c0 c1 c2 c3 c4 c5 c6 hl hv' fa hown hyx hx1 hrow f1
      go_wp2_with (at_builtin; refine wpList_app_own2 rfl (.tmp 11) (.tmp 17) 35 rfl w.heap.size 34 i0 _ 7 80 Tryd.underlying35 hi hz0 hz1 hz2 rfl (by decide) _ k _ rfl hrowh.out _ 1 _ rfl hyxh.out (EV.one _ ⟨_, _, _, rfl⟩) (by omega) (by omega) (by simp; omega) ?_; intro v2 w2 ho2 hg2 hb2)
      have hpush := (hownh.out.push hx1h.out (by simp; omega) (by rw [hyl'.out]; exact ho2) hg2 hb2)
      have F3 : Fr none' w w2 := F2.out.grown hg2 (fun b hb => .inl (ownsRow_block hrowh.out b hb).1)
      have hph := Lib.hid hpush
      have F3h := Lib.hid F3
      clear ho2 hg2 hb2 hpush F3
      go_roundw
      case rel => exact ⟨k + 1, by go_num, by omega, _, by rw [List.length_append, hyl'.out]; rfl, by rw [List.map_append, hyh.out, List.take_succ_eq_append_getElem hlt, List.map_append, ← hxh.out]; rfl, hph.out, F3h.out⟩
      case measure => simp [intOf]; omega
    · go_wp2_with fail
      go_ret
      have hke : k = xs.length := by omega
      rw [hke, List.take_length] at hye
      exact ⟨_, ys, rfl, hye, by rw [← hyl]; exact ho, hf⟩

theorem EntCell.keep {w w' : World} {b o : Nat} {x : EV} (h : EntCell w b o x) (hb : b < w.heap.size) (f : Fr none' w w') : EntCell w' b o x :=
  ⟨(f.cell (p := ⟨b, _, none⟩) hb id).trans h.c0, (f.cell (p := ⟨b, _, none⟩) hb id).trans h.c1, (f.cell (p := ⟨b, _, none⟩) hb id).trans h.c2, (f.cell (p := ⟨b, _, none⟩) hb id).trans h.c3, (f.cell (p := ⟨b, _, none⟩) hb id).trans h.c4, (f.cell (p := ⟨b, _, none⟩) hb id).trans h.c5, (f.cell (p := ⟨b, _, none⟩) hb id).trans h.c6⟩

set_option maxHeartbeats 2000000 in
theorem samerow_any (u v : Value) (xs ys : List EV) (w : World) (h : EntsAt F w u xs) (h' : EntsAt G w v ys) (hn : xs.length ≤ 1000000000) (hn' : ys.length ≤ 1000000000) (hL : ∀ x ∈ xs, x.e.lines.length ≤ 5864062014634) (hL' : ∀ x ∈ ys, x.e.lines.length ≤ 5864062014634) :
    Calls Tryd.prog 36 #[u, v] w fun e w' => e = .returned (.bool (decide (xs.map EV.e = ys.map EV.e))) ∧ Fr none' w w' := by
  obtain ⟨a, c, rfl⟩ := h.cells
  obtain ⟨a', c', rfl⟩ := h'.cells
  have H := Lib.hid h
  have H' := Lib.hid h'
  have hLh := Lib.hid hL
  have hLh' := Lib.hid hL'
  clear h h' hL hL'
  by_cases hne : xs.length = ys.length
  · obtain ⟨len, hlen⟩ : ∃ len, len = xs.length := ⟨_, rfl⟩
    have hA := Lib.hid hlen
    have hB := Lib.hid (hlen.trans hne)
    rw [← hlen] at hn H ⊢
    rw [← hne, ← hlen] at H' ⊢
    clear hlen hne hn'
    go_enter Tryd.func36, Tryd.ntmps36
    go_wp2_with fail
    go_loopw [5] (fun i wr => ∃ k : Nat, i = .int .i64 k ∧ k ≤ len ∧ (∀ j, j < k → (xs.map EV.e)[j]? = (ys.map EV.e)[j]?) ∧ Fr none' w wr) (fun i _ => len - (intOf i).toNat)
    case atStart => exact ⟨0, rfl, Nat.zero_le _, fun j hj => absurd hj (by omega), Fr.refl _ _⟩
    case round =>
      obtain ⟨k, rfl, hk, hj, hf⟩ := hrel
      have hjh := Lib.hid hj
      have hfh := Lib.hid hf
      clear hj
      by_cases hlt : k < len
      · have hlt1 : k < xs.length := by rw [← hA.out]; exact hlt
        have hlt2 : k < ys.length := by rw [← hB.out]; exact hlt
        have T1 := H.out.keep0 hf
        have T2 := H'.out.keep0 hf
        rw [hA.out] at T1
        rw [hB.out] at T2
        obtain ⟨b, o, rfl, hb, -, E1⟩ := T1.elem k hlt1
        obtain ⟨b', o', rfl, hb', -, E2⟩ := T2.elem k hlt2
        have l1 := T1.lines _ (List.getElem_mem hlt1)
        have l2 := T2.lines _ (List.getElem_mem hlt2)
        have n1 := hLh.out _ (List.getElem_mem hlt1)
        have n2 := hLh'.out _ (List.getElem_mem hlt2)
        have e1 : (xs.map EV.e)[k]? = some xs[k].e := by rw [List.getElem?_map, List.getElem?_eq_getElem hlt1]; rfl
        have e2 : (ys.map EV.e)[k]? = some ys[k].e := by rw [List.getElem?_map, List.getElem?_eq_getElem hlt2]; rfl
        obtain ⟨x, hx⟩ : ∃ x, x = xs[k] := ⟨_, rfl⟩
        obtain ⟨y, hy⟩ : ∃ y, y = ys[k] := ⟨_, rfl⟩
        rw [← hx] at E1 l1 n1 e1
        rw [← hy] at E2 l2 n2 e2
        obtain ⟨x, xv⟩ := x
        obtain ⟨y, yv⟩ := y
        obtain ⟨xa, xc, hxv⟩ := l1.cells
        obtain ⟨ya, yc, hyv⟩ := l2.cells
        dsimp only at hxv hyv l1 l2 n1 n2 e1 e2
        subst hxv
        subst hyv
        have e1' := Lib.hid e1
        have e2' := Lib.hid e2
        have E1d := Lib.hid (E1.keep hb (Fr.refl none' wr).drew)
        have E2d := Lib.hid (E2.keep hb' (Fr.refl none' wr).drew)
        have l1h := Lib.hid (l1.keep0 (Fr.refl none' wr).drew)
        have l2h := Lib.hid (l2.keep0 (Fr.refl none' wr).drew)
        have hbh := Lib.hid hb
        have hbh' := Lib.hid hb'
        clear T1 T2 hx hy e1 e2 hf E1 E2 l1 l2 hlt1 hlt2
        go_wp2_with fail
        have Z0 := And.intro E1d.out E2d.out
        go_region_held3 (fun w' => w'.cell? ⟨b, o + k * 7, none⟩ = some (.int .i64 x.client) ∧ w'.cell? ⟨b, o + k * 7 + 1, none⟩ = some (.int .i64 x.num) ∧ w'.cell? ⟨b, o + k * 7 + 2, none⟩ = some (.int .i64 x.kind) ∧ w'.cell? ⟨b, o + k * 7 + 3, none⟩ = some (.string x.sku) ∧ w'.cell? ⟨b, o + k * 7 + 4, none⟩ = some (.int .i64 x.order) ∧ w'.cell? ⟨b, o + k * 7 + 5, none⟩ = some (.int .i64 x.n) ∧ w'.cell? ⟨b, o + k * 7 + 6, none⟩ = some (.slice xa x.lines.length xc) ∧ w'.cell? ⟨b', o' + k * 7, none⟩ = some (.int .i64 y.client) ∧ w'.cell? ⟨b', o' + k * 7 + 1, none⟩ = some (.int .i64 y.num) ∧ w'.cell? ⟨b', o' + k * 7 + 2, none⟩ = some (.int .i64 y.kind) ∧ w'.cell? ⟨b', o' + k * 7 + 3, none⟩ = some (.string y.sku) ∧ w'.cell? ⟨b', o' + k * 7 + 4, none⟩ = some (.int .i64 y.order) ∧ w'.cell? ⟨b', o' + k * 7 + 5, none⟩ = some (.int .i64 y.n) ∧ w'.cell? ⟨b', o' + k * 7 + 6, none⟩ = some (.slice ya y.lines.length yc))
          (first | exact ⟨Z0.1.c0, Z0.1.c1, Z0.1.c2, Z0.1.c3, Z0.1.c4, Z0.1.c5, Z0.1.c6, Z0.2.c0, Z0.2.c1, Z0.2.c2, Z0.2.c3, Z0.2.c4, Z0.2.c5, Z0.2.c6⟩ | exact ⟨Z1.1.c0, Z1.1.c1, Z1.1.c2, Z1.1.c3, Z1.1.c4, Z1.1.c5, Z1.1.c6, Z1.2.c0, Z1.2.c1, Z1.2.c2, Z1.2.c3, Z1.2.c4, Z1.2.c5, Z1.2.c6⟩)
          (first | (go_at_call 35; refine (resame_any _ _ _ _ _ l1h.out l2h.out n1 n2).mono ?_; rintro e w1 ⟨rfl, f1⟩; have Z1 := And.intro (E1d.out.keep hbh.out f1) (E2d.out.keep hbh'.out f1)))
        have f1h := Lib.hid f1
        clear Z0 Z1 f1
        by_cases hxy : x = y
        · rw [decide_eq_true hxy]
          have hxyh := Lib.hid hxy
          clear hxy
          go_wp2_with fail
          go_roundw
          case rel => exact ⟨k + 1, by go_num, by omega, fun j hj => by
            rcases Nat.lt_or_ge j k with h | h
            · exact hjh.out j h
            · obtain rfl : j = k := by omega
              rw [e1'.out, e2'.out, hxyh.out], (hfh.out.drew).trans f1h.out (fun _ _ h => h)⟩
          case measure => simp [intOf]; omega
        · rw [decide_eq_false hxy]
          have hxyh := Lib.hid hxy
          clear hxy
          go_wp2_with fail
          go_ret
          exact ⟨ret_bool (decide_eq_false (fun e => hxyh.out (by rw [e] at e1'; have := e1'.out.symm.trans e2'.out; exact Option.some.inj this))).symm, (hfh.out.drew).trans f1h.out (fun _ _ h => h)⟩
      · go_wp2_with fail
        go_ret
        exact ⟨ret_bool (decide_eq_true (eq_of_get (n := len) (by rw [List.length_map]; exact hA.out.symm) (by rw [List.length_map]; exact hB.out.symm) (fun j hj => hjh.out j (by omega)))).symm, hf⟩
  · have e : decide (xs.map EV.e = ys.map EV.e) = false := decide_eq_false (fun e => hne (by have := congrArg List.length e; simpa using this))
    have hne' : ((xs.length : Int) != (ys.length : Int)) = true := by simp; omega
    have e' := Lib.hid e
    clear hne e
    go_enter Tryd.func36, Tryd.ntmps36
    go_wp2_with fail
    go_ret
    exact ⟨ret_bool e'.out.symm, Fr.refl _ _⟩

end Go.Proofs.YtmhicplhfbnpaaaDoor
