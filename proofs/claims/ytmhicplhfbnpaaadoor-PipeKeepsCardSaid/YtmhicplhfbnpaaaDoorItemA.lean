/-
  gimbal/item and gimbal/entry: Copy and Same; the references' likewise.
-/
import Derived.Test.YtmhicplhfbnpaaaDoorRows
import Derived.Test.YtmhicplhfbnpaaaDoorEnt
import Derived.Outline
import Derived.Deep.QuietTactic
namespace Go.Proofs.YtmhicplhfbnpaaaDoor
set_option linter.unusedVariables false
set_option linter.unusedSimpArgs false
open Go.RowKit
variable {F : Nat → Prop}

theorem Tryd.infoLine : (Tryd.prog.info? 71).map (fun i => (i.zero, i.size, i.bytes)) = some (some (.agg #[.string ⟨#[]⟩, .int .i64 0]), 2, 24) := by kernel_rfl

/-- New memory. -/
def New (w w' : World) : Nat → Prop := fun b => w.heap.size ≤ b ∧ b < w'.heap.size

set_option maxHeartbeats 400000 in
theorem lclone_any (v : Value) (ls : List Line) (w : World) (h : LinesAt F w v ls) (hL : ls.length ≤ 5864062014634) :
    Calls Tryd.prog 58 #[v] w fun e w' => ∃ v', e = .returned v' ∧ w'.ownsRow w.heap.size 71 2 v' ls.length (linc ls) ∧ Fr none' w w' := by
  obtain ⟨i0, hi, hz0, hz1, hz2⟩ := info_parts Tryd.infoLine
  have qT : ∀ (w : World) (a : Option Addr) (n c n' c' : Nat), (binOp .eql 30 (.slice a n c) (.slice none n' c')).run Tryd.prog w = .ok (.bool a.isNone) w := fun w a n c n' c' => Lib.run_eql_slice_nil w _ _ a n c n' c' Tryd.underlying30
  have h' := h.sl
  obtain ⟨ao, cap, rfl, hn, hl, h3, h4⟩ := h'
  cases ao with
  | none =>
    have h0 : ls = [] := List.eq_nil_of_length_eq_zero (by have := h3 rfl; omega)
    subst h0
    go_enter Tryd.func58, Tryd.ntmps58
    go_wp2_with fail
    go_ret
    exact ⟨_, rfl, World.ownsRow_nil _ _ _ _, Fr.refl _ _⟩
  | some ad =>
    clear h3 h4 hl
    have ha : Fr none' w (w.alloc (Obj.cells #[] 71)) := (Fr.refl _ _).alloc _
    have hh : Sl (w.alloc (Obj.cells #[] 71)) (Value.slice (some ad) ls.length cap) 2 ls.length (linc ls) := (h.keep0 ha).sl
    have hg : (w.alloc (Obj.cells #[] 71)).heap[w.heap.size]? = some (.cells #[] 71 (0, 0)) := blk_alloc_new rfl
    have hg' := Lib.hid hg
    have ha' := Lib.hid ha
    clear hg ha h
    go_enter Tryd.func58, Tryd.ntmps58
    go_wp2_with (at_builtin; refine wpList_app_fresh rfl (.tmp 5) (.tmp 6) 30 rfl 71 i0 (.agg #[.string ⟨#[]⟩, .int .i64 0]) Tryd.underlying30 hi hz0 hz1 rfl (some ⟨w.heap.size, 0, none⟩) rfl (.inr ⟨_, rfl, hg'.out⟩) w.heap.size (by simp) (fun g h => by cases h; exact Nat.le_refl _) _ rfl hh (linc_one ls) (by omega) (by rw [hz2]; omega) ?_; intro v' w' ho hf hnil)
    go_ret
    exact ⟨v', rfl, ho, ha'.out.trans hf (fun _ _ h => h)⟩

def CopyPost (C : Value → Value) (ls : List Line) (w : World) (e : Ending) (w' : World) : Prop := ∃ v', e = .returned (C v') ∧ LinesAt (New w w') w' v' ls ∧ Fr none' w w'

set_option maxHeartbeats 400000 in
theorem icopy_any (kind order n : Int) (sku : ByteArray) (v : Value) (ls : List Line) (w : World) (h : LinesAt F w v ls) (hL : ls.length ≤ 5864062014634) :
    Calls Tryd.prog 49 #[.agg #[.int .i64 kind, .string sku, .int .i64 order, .int .i64 n, v]] w (CopyPost (fun v => .agg #[.int .i64 kind, .string sku, .int .i64 order, .int .i64 n, v]) ls w) := by
  obtain ⟨ao, cap, rfl⟩ := h.cells
  have fa : Fr none' w ((w.alloc (.cells #[.int .i64 kind, .string sku, .int .i64 order, .int .i64 n, .slice ao ls.length cap] 32)).alloc (.cells #[.int .i64 0, .string ⟨#[]⟩, .int .i64 0, .int .i64 0, .slice none 0 0] 32)) := ((Fr.refl _ _).alloc _).alloc _
  have hfa := Lib.hid fa
  have hh := Lib.hid (h.keep0 fa)
  clear fa h
  go_enter Tryd.func49, Tryd.ntmps49
  go_wp2_with fail
  refine (lclone_any _ _ _ hh.out hL).mono ?_
  rintro e w1 ⟨v', rfl, hown, f1⟩
  have ho : LinesAt _ _ _ _ := ⟨Sl.of_own hown, In.own hown⟩
  obtain ⟨a', c', rfl⟩ := ho.cells
  clear hown
  have q1 := f1.blk (k := w.heap.size) (blk_alloc_old (by simp) |>.trans (blk_alloc_new rfl)) id
  have q2 := f1.blk (k := w.heap.size + 1) (blk_alloc_new (by simp)) id
  obtain ⟨⟨g0, g1, g2, g3, g4⟩, ⟨z0, z1, z2, z3, z4⟩⟩ := cells5 q1
  obtain ⟨⟨k0, k1, k2, k3, k4⟩, ⟨y0, y1, y2, y3, y4⟩⟩ := cells5 q2
  have F1 := Lib.hid (hfa.out.trans f1 (fun _ _ h => h))
  have ho' := Lib.hid ho
  have hsz := f1.size
  simp only [World.size_alloc] at hsz
  clear q1 q2 f1 ho hfa hh
  go_wp2_with fail
  have Fx : Fr (two w.heap.size (w.heap.size + 1)) w1 ((((((w1.setCell ⟨w.heap.size, 4, none⟩ (.slice a' ls.length c')).setCell ⟨w.heap.size + 1, 0, none⟩ (.int .i64 kind)).setCell ⟨w.heap.size + 1, 1, none⟩ (.string sku)).setCell ⟨w.heap.size + 1, 2, none⟩ (.int .i64 order)).setCell ⟨w.heap.size + 1, 3, none⟩ (.int .i64 n)).setCell ⟨w.heap.size + 1, 4, none⟩ (.slice a' ls.length c')) := by
    refine (((((Fr.setCell (Fr.refl _ _) _ _ ?_).setCell _ _ ?_).setCell _ _ ?_).setCell _ _ ?_).setCell _ _ ?_).setCell _ _ ?_
    all_goals exact .inr (by simp [two])
  refine bodyPost_ret (v := .agg #[.int .i64 kind, .string sku, .int .i64 order, .int .i64 n, .slice a' ls.length c']) (by simp [results, Tryd.results49, go_sem, k0, k1, k2, k3, k4]) rfl ⟨.slice a' ls.length c', rfl, (ho'.out.keep Fx (fun b hb _ e => by rcases e with e | e <;> (have := hb.1; simp only [World.size_alloc] at this; omega))).mono (fun b hb => ⟨by have := hb.1; simp only [World.size_alloc] at this; omega, Nat.lt_of_lt_of_le hb.2 Fx.size⟩), F1.out.trans Fx (fun i hi e => by rcases e with e | e <;> omega)⟩

set_option maxHeartbeats 400000 in
theorem ecopy_any (client num kind order n : Int) (sku : ByteArray) (v : Value) (ls : List Line) (w : World) (h : LinesAt F w v ls) (hL : ls.length ≤ 5864062014634) :
    Calls Tryd.prog 42 #[.agg #[.int .i64 client, .int .i64 num, .int .i64 kind, .string sku, .int .i64 order, .int .i64 n, v]] w (CopyPost (fun v => .agg #[.int .i64 client, .int .i64 num, .int .i64 kind, .string sku, .int .i64 order, .int .i64 n, v]) ls w) := by
  obtain ⟨ao, cap, rfl⟩ := h.cells
  have fa : Fr none' w ((w.alloc (.cells #[.int .i64 client, .int .i64 num, .int .i64 kind, .string sku, .int .i64 order, .int .i64 n, .slice ao ls.length cap] 34)).alloc (.cells #[.int .i64 0, .int .i64 0, .int .i64 0, .string ⟨#[]⟩, .int .i64 0, .int .i64 0, .slice none 0 0] 34)) := ((Fr.refl _ _).alloc _).alloc _
  have hfa := Lib.hid fa
  have hh := Lib.hid (h.keep0 fa)
  clear fa h
  go_enter Tryd.func42, Tryd.ntmps42
  go_wp2_with fail
  refine (icopy_any _ _ _ _ _ _ _ hh.out hL).mono ?_
  rintro e w1 ⟨v', rfl, ho, f1⟩
  obtain ⟨a', c', rfl⟩ := ho.cells
  dsimp only
  have q1 := f1.blk (k := w.heap.size) (blk_alloc_old (by simp) |>.trans (blk_alloc_new rfl)) id
  have q2 := f1.blk (k := w.heap.size + 1) (blk_alloc_new (by simp)) id
  obtain ⟨⟨g0, g1, g2, g3, g4, g5, g6⟩, ⟨z0, z1, z2, z3, z4, z5, z6⟩⟩ := cells7 q1
  obtain ⟨⟨k0, k1, k2, k3, k4, k5, k6⟩, ⟨y0, y1, y2, y3, y4, y5, y6⟩⟩ := cells7 q2
  have F1 := Lib.hid (hfa.out.trans f1 (fun _ _ h => h))
  have ho' := Lib.hid ho
  have hsz := f1.size
  simp only [World.size_alloc] at hsz
  clear q1 q2 f1 ho hfa hh
  go_wp2_with fail
  have Fx : Fr (two w.heap.size (w.heap.size + 1)) w1 ((((((((((((w1.setCell ⟨w.heap.size, 2, none⟩ (.int .i64 kind)).setCell ⟨w.heap.size, 3, none⟩ (.string sku)).setCell ⟨w.heap.size, 4, none⟩ (.int .i64 order)).setCell ⟨w.heap.size, 5, none⟩ (.int .i64 n)).setCell ⟨w.heap.size, 6, none⟩ (.slice a' ls.length c')).setCell ⟨w.heap.size + 1, 0, none⟩ (.int .i64 client)).setCell ⟨w.heap.size + 1, 1, none⟩ (.int .i64 num)).setCell ⟨w.heap.size + 1, 2, none⟩ (.int .i64 kind)).setCell ⟨w.heap.size + 1, 3, none⟩ (.string sku)).setCell ⟨w.heap.size + 1, 4, none⟩ (.int .i64 order)).setCell ⟨w.heap.size + 1, 5, none⟩ (.int .i64 n)).setCell ⟨w.heap.size + 1, 6, none⟩ (.slice a' ls.length c')) := by
    refine (((((((((((Fr.setCell (Fr.refl _ _) _ _ ?_).setCell _ _ ?_).setCell _ _ ?_).setCell _ _ ?_).setCell _ _ ?_).setCell _ _ ?_).setCell _ _ ?_).setCell _ _ ?_).setCell _ _ ?_).setCell _ _ ?_).setCell _ _ ?_).setCell _ _ ?_
    all_goals exact .inr (by simp [two])
  refine bodyPost_ret (v := .agg #[.int .i64 client, .int .i64 num, .int .i64 kind, .string sku, .int .i64 order, .int .i64 n, .slice a' ls.length c']) (by simp [results, Tryd.results42, go_sem, k0, k1, k2, k3, k4, k5, k6]) rfl ⟨.slice a' ls.length c', rfl, (ho'.out.keep Fx (fun b hb _ e => by rcases e with e | e <;> (have := hb.1; simp only [World.size_alloc] at this; omega))).mono (fun b hb => ⟨by have := hb.1; simp only [World.size_alloc] at this; omega, Nat.lt_of_lt_of_le hb.2 Fx.size⟩), F1.out.trans Fx (fun i hi e => by rcases e with e | e <;> omega)⟩

/-- New memory behind two blocks. -/
def New2 (w w' : World) : Nat → Prop := fun b => w.heap.size + 2 ≤ b ∧ b < w'.heap.size

set_option maxHeartbeats 400000 in
theorem rcopy_any (kind order n : Int) (sku : ByteArray) (v : Value) (ls : List Line) (w : World) (h : LinesAt F w v ls) (hL : ls.length ≤ 5864062014634) :
    Calls Tryd.prog 44 #[.agg #[.int .i64 kind, .string sku, .int .i64 order, .int .i64 n, v]] w (CopyPost (fun v => .agg #[.int .i64 kind, .string sku, .int .i64 order, .int .i64 n, v]) ls w) := by
  obtain ⟨ao, cap, rfl⟩ := h.cells
  have fa : Fr none' w ((w.alloc (.cells #[.int .i64 kind, .string sku, .int .i64 order, .int .i64 n, .slice ao ls.length cap] 32)).alloc (.cells #[.int .i64 0, .string ⟨#[]⟩, .int .i64 0, .int .i64 0, .slice none 0 0] 32)) := ((Fr.refl _ _).alloc _).alloc _
  have hfa := Lib.hid fa
  have hh := Lib.hid (h.keep0 fa)
  clear fa h
  go_enter Tryd.func44, Tryd.ntmps44
  obtain ⟨i0, hi, hz0, hz1, hz2⟩ := info_parts Tryd.infoLine
  have hin := hh.out.sl
  have hin' := Lib.hid hin
  clear hin
  go_wp2_with (at_builtin; refine wpList_app_fresh rfl (.tmp 4) (.tmp 6) 30 rfl 71 i0 (.agg #[.string ⟨#[]⟩, .int .i64 0]) Tryd.underlying30 hi hz0 hz1 rfl none rfl (.inl rfl) (w.heap.size + 2) (by simp) (fun g h => by cases h) _ rfl hin'.out (linc_one ls) (by omega) (by rw [hz2]; omega) ?_; intro v' w1 hown f1 hnil; have ho : LinesAt (New2 w w1) w1 v' ls := ⟨Sl.of_own hown, (In.own hown)⟩; obtain ⟨a', c', rfl⟩ := ho.cells; clear hown hnil; have q1 := f1.blk (k := w.heap.size) (blk_alloc_old (by simp) |>.trans (blk_alloc_new rfl)) id; have q2 := f1.blk (k := w.heap.size + 1) (blk_alloc_new (by simp)) id; obtain ⟨⟨g0, g1, g2, g3, g4⟩, ⟨z0, z1, z2, z3, z4⟩⟩ := cells5 q1; obtain ⟨⟨k0, k1, k2, k3, k4⟩, ⟨y0, y1, y2, y3, y4⟩⟩ := cells5 q2; have F1 := Lib.hid (hfa.out.trans f1 (fun _ _ h => h)); have ho' := Lib.hid ho; have hsz := f1.size; simp only [World.size_alloc] at hsz; clear q1 q2 f1 ho hfa hh)
  have Fx : Fr (two w.heap.size (w.heap.size + 1)) w1 ((((((w1.setCell ⟨w.heap.size, 4, none⟩ (.slice a' ls.length c')).setCell ⟨w.heap.size + 1, 0, none⟩ (.int .i64 kind)).setCell ⟨w.heap.size + 1, 1, none⟩ (.string sku)).setCell ⟨w.heap.size + 1, 2, none⟩ (.int .i64 order)).setCell ⟨w.heap.size + 1, 3, none⟩ (.int .i64 n)).setCell ⟨w.heap.size + 1, 4, none⟩ (.slice a' ls.length c')) := by
    refine (((((Fr.setCell (Fr.refl _ _) _ _ ?_).setCell _ _ ?_).setCell _ _ ?_).setCell _ _ ?_).setCell _ _ ?_).setCell _ _ ?_
    all_goals exact .inr (by simp [two])
  refine bodyPost_ret (v := .agg #[.int .i64 kind, .string sku, .int .i64 order, .int .i64 n, .slice a' ls.length c']) (by simp [results, Tryd.results44, go_sem, k0, k1, k2, k3, k4]) rfl ⟨.slice a' ls.length c', rfl, (ho'.out.keep Fx (fun b hb _ e => by rcases e with e | e <;> (have := hb.1; omega))).mono (fun b hb => ⟨by have := hb.1; omega, Nat.lt_of_lt_of_le hb.2 Fx.size⟩), F1.out.trans Fx (fun i hi e => by rcases e with e | e <;> omega)⟩

set_option maxHeartbeats 400000 in
theorem recopy_any (client num kind order n : Int) (sku : ByteArray) (v : Value) (ls : List Line) (w : World) (h : LinesAt F w v ls) (hL : ls.length ≤ 5864062014634) :
    Calls Tryd.prog 18 #[.agg #[.int .i64 client, .int .i64 num, .int .i64 kind, .string sku, .int .i64 order, .int .i64 n, v]] w (CopyPost (fun v => .agg #[.int .i64 client, .int .i64 num, .int .i64 kind, .string sku, .int .i64 order, .int .i64 n, v]) ls w) := by
  obtain ⟨ao, cap, rfl⟩ := h.cells
  have fa : Fr none' w ((w.alloc (.cells #[.int .i64 client, .int .i64 num, .int .i64 kind, .string sku, .int .i64 order, .int .i64 n, .slice ao ls.length cap] 34)).alloc (.cells #[.int .i64 0, .int .i64 0, .int .i64 0, .string ⟨#[]⟩, .int .i64 0, .int .i64 0, .slice none 0 0] 34)) := ((Fr.refl _ _).alloc _).alloc _
  have hfa := Lib.hid fa
  have hh := Lib.hid (h.keep0 fa)
  clear fa h
  go_enter Tryd.func18, Tryd.ntmps18
  go_wp2_with fail
  refine (rcopy_any _ _ _ _ _ _ _ hh.out hL).mono ?_
  rintro e w1 ⟨v', rfl, ho, f1⟩
  obtain ⟨a', c', rfl⟩ := ho.cells
  dsimp only
  have q1 := f1.blk (k := w.heap.size) (blk_alloc_old (by simp) |>.trans (blk_alloc_new rfl)) id
  have q2 := f1.blk (k := w.heap.size + 1) (blk_alloc_new (by simp)) id
  obtain ⟨⟨g0, g1, g2, g3, g4, g5, g6⟩, ⟨z0, z1, z2, z3, z4, z5, z6⟩⟩ := cells7 q1
  obtain ⟨⟨k0, k1, k2, k3, k4, k5, k6⟩, ⟨y0, y1, y2, y3, y4, y5, y6⟩⟩ := cells7 q2
  have F1 := Lib.hid (hfa.out.trans f1 (fun _ _ h => h))
  have ho' := Lib.hid ho
  have hsz := f1.size
  simp only [World.size_alloc] at hsz
  clear q1 q2 f1 ho hfa hh
  go_wp2_with fail
  have Fx : Fr (two w.heap.size (w.heap.size + 1)) w1 ((((((((((((w1.setCell ⟨w.heap.size, 2, none⟩ (.int .i64 kind)).setCell ⟨w.heap.size, 3, none⟩ (.string sku)).setCell ⟨w.heap.size, 4, none⟩ (.int .i64 order)).setCell ⟨w.heap.size, 5, none⟩ (.int .i64 n)).setCell ⟨w.heap.size, 6, none⟩ (.slice a' ls.length c')).setCell ⟨w.heap.size + 1, 0, none⟩ (.int .i64 client)).setCell ⟨w.heap.size + 1, 1, none⟩ (.int .i64 num)).setCell ⟨w.heap.size + 1, 2, none⟩ (.int .i64 kind)).setCell ⟨w.heap.size + 1, 3, none⟩ (.string sku)).setCell ⟨w.heap.size + 1, 4, none⟩ (.int .i64 order)).setCell ⟨w.heap.size + 1, 5, none⟩ (.int .i64 n)).setCell ⟨w.heap.size + 1, 6, none⟩ (.slice a' ls.length c')) := by
    refine (((((((((((Fr.setCell (Fr.refl _ _) _ _ ?_).setCell _ _ ?_).setCell _ _ ?_).setCell _ _ ?_).setCell _ _ ?_).setCell _ _ ?_).setCell _ _ ?_).setCell _ _ ?_).setCell _ _ ?_).setCell _ _ ?_).setCell _ _ ?_).setCell _ _ ?_
    all_goals exact .inr (by simp [two])
  refine bodyPost_ret (v := .agg #[.int .i64 client, .int .i64 num, .int .i64 kind, .string sku, .int .i64 order, .int .i64 n, .slice a' ls.length c']) (by simp [results, Tryd.results18, go_sem, k0, k1, k2, k3, k4, k5, k6]) rfl ⟨.slice a' ls.length c', rfl, (ho'.out.keep Fx (fun b hb _ e => by rcases e with e | e <;> (have := hb.1; simp only [World.size_alloc] at this; omega))).mono (fun b hb => ⟨by have := hb.1; simp only [World.size_alloc] at this; omega, Nat.lt_of_lt_of_le hb.2 Fx.size⟩), F1.out.trans Fx (fun i hi e => by rcases e with e | e <;> omega)⟩

end Go.Proofs.YtmhicplhfbnpaaaDoor
