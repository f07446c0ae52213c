/-
  gimbal/pipe: Append.
-/
import Derived.Test.YtmhicplhfbnpaaaDoorPipeC
import Derived.Deep.RegionHeld3
namespace Go.Proofs.YtmhicplhfbnpaaaDoor
set_option linter.unusedVariables false
set_option linter.unusedSimpArgs false
open Go.RowKit
variable {F G : Nat → Prop}

/-- What Append comes to. -/
def AppPost (F : Nat → Prop) (w : World) (p : Nat) (base : Int) (xs : List EV) (x : Ent) (e : Ending) (w' : World) : Prop :=
  (okEnt x = false ∧ e = .returned (.tuple #[.int .i64 0, .int .i64 2]) ∧ Fr none' w w') ∨
  (okEnt x = true ∧ xs.length = 24 ∧ e = .returned (.tuple #[.int .i64 0, .int .i64 5]) ∧ Fr none' w w') ∨
  (okEnt x = true ∧ xs.length < 24 ∧ ∃ (F' : Nat → Prop) (y : EV), y.e = x ∧ e = .returned (.tuple #[.int .i64 (base + ((xs.length : Int) + 1)), .int .i64 0]) ∧ (∀ i, F' i → F i ∨ w.heap.size ≤ i) ∧ Pp F' w' p base (xs ++ [y]) ∧ Fr (fun i => i = p ∨ F i) w w')

set_option maxRecDepth 100000 in
set_option maxHeartbeats 8000000 in
theorem pappend_any (p : Nat) (base : Int) (xs : List EV) (x : Ent) (lv : Value) (w : World) (h : Pp F w p base xs) (hx : LinesAt G w lv x.lines) (hwf : x.wf) (hk : KindsAt w) (hb : 0 ≤ base ∧ base ≤ 1152921504606846976) (hF : ∀ b, F b → b < w.heap.size) :
    Calls Tryd.prog 16 #[.pointer (some ⟨p, 0, none⟩), .agg #[.int .i64 x.client, .int .i64 x.num, .int .i64 x.kind, .string x.sku, .int .i64 x.order, .int .i64 x.n, lv]] w (AppPost F w p base xs x) := by
  obtain ⟨i0, hi, hz0, hz1, hz2⟩ := info_parts Tryd.infoEnt
  obtain ⟨la, lc, rfl⟩ := hx.cells
  obtain ⟨g, hg⟩ : ∃ g, g = w.heap.size := ⟨_, rfl⟩
  obtain ⟨wa, hwa⟩ : ∃ wa, wa = w.alloc (.cells #[.int .i64 x.client, .int .i64 x.num, .int .i64 x.kind, .string x.sku, .int .i64 x.order, .int .i64 x.n, .slice la x.lines.length lc] 34) := ⟨_, rfl⟩
  have fa : Fr none' w wa := by rw [hwa]; exact (Fr.refl _ _).alloc _
  have qa : wa.heap[g]? = some (.cells #[.int .i64 x.client, .int .i64 x.num, .int .i64 x.kind, .string x.sku, .int .i64 x.order, .int .i64 x.n, .slice la x.lines.length lc] 34 (0, 0)) := by rw [hwa]; exact blk_alloc_new hg
  have H := Lib.hid (h.keep0 fa)
  have hll := hwf.many
  have hwfh := Lib.hid hwf
  have Lh := Lib.hid (hx.keep0 fa)
  have K := Lib.hid (hk.keep0 fa)
  have qah := Lib.hid qa
  have fah := Lib.hid fa
  have hgp : Hid (g ≠ p) := Lib.hid (by have := h.lt; omega)
  have hFg0 : Hid (∀ b, F b → b ≠ g) := Lib.hid (fun b hb e => by have := hF b hb; omega)
  have Z := (cells7 qa).1
  obtain ⟨a0, a1, a2, a3, a4, a5, a6⟩ := Z
  clear h hx hk fa qa hwf
  go_enter Tryd.func16, Tryd.ntmps16
  go_wp2_with fail
  rw [← hg, ← hwa]
  clear hwa hg
  refine (pnone_any _ _ _ _ H.out).mono ?_
  rintro e1 w' ⟨rfl, rfl⟩
  go_wp2_with fail
  refine (echeck_any _ _ _ Lh.out hwfh.out K.out).mono ?_
  rintro e1 w1 ⟨rfl, f1⟩
  have hentNo := Lib.hid (show entNo x = if okEnt x = true then 0 else 2 from rfl)
  have f1h := Lib.hid f1
  clear a0 a1 a2 a3 a4 a5 a6 f1
  cases hok : okEnt x
  · rw [show entNo x = 2 from by rw [hentNo.out, hok]; rfl]
    have hokh := Lib.hid hok
    clear hok
    go_wp2_with fail
    go_ret2
    exact .inl ⟨hokh.out, rfl, fah.out.trans f1h.out (fun _ _ h => h)⟩
  · rw [show entNo x = 0 from by rw [hentNo.out, hok]; rfl]
    have hokh := Lib.hid hok
    have H1 := H.out.keep0 f1h.out
    have hfl := H1.few
    obtain ⟨rv, hrow, hpe⟩ := H1.row
    obtain ⟨a, c, rfl, hcc⟩ := hpe.cells
    have c1 : w1.cell? ⟨p, 1, none⟩ = some (.slice a xs.length c) := cell_of_blk (o := 1) hrow rfl
    clear hok
    by_cases hfull : xs.length = 24
    · have hfh := Lib.hid hfull
      have hq : ((xs.length : Int) == 24) = true := by rw [hfull]; rfl
      clear hfull hrow hpe H1
      go_wp2_with fail
      go_ret2
      exact .inr (.inl ⟨hokh.out, hfh.out, rfl, fah.out.trans f1h.out (fun _ _ h => h)⟩)
    · have hfew : xs.length < 24 := by omega
      have hq : ((xs.length : Int) == 24) = false := by simp; omega
      have f1d := Lib.hid ((fah.out.trans f1h.out (fun _ _ h => h)).drew)
      have rowd : Hid (w1.drew.heap[p]? = _) := Lib.hid hrow
      have qd : Hid (w1.drew.heap[g]? = _) := Lib.hid (f1h.out.blk qah.out id)
      have Ld := Lib.hid (Lh.out.keep0 (f1h.out.drew))
      have hpd := Lib.hid (hpe.keep (Fr.refl none' w1).drew (fun _ _ _ h => h))
      have hnp := Lib.hid H1.np
      have hxwf := Lib.hid H1.wf
      have hok := hokh
      have c1d : w1.drew.cell? ⟨p, 1, none⟩ = some (.slice a xs.length c) := c1
      go_upto_region 8 with fail
      have Zd := (cells7 qd.out).1
      rcases hpe.room with ⟨hown, hFo⟩ | ⟨a', n', hful⟩
      · have hownd : Hid (w1.drew.ownsRow 0 34 7 (.slice a xs.length c) xs.length (entc xs)) := Lib.hid hown
        have hvo : Hid (vblk (.slice a xs.length c) = (Value.slice a xs.length c).ownBlock) := Lib.hid (vblk_own hown)
        have hSo : Hid (∀ b, (Value.slice a xs.length c).ownBlock = some b → F b ∧ b < w1.drew.heap.size) := Lib.hid (fun b e => ⟨hFo b e, (ownsRow_block hown b e).2⟩)
        have hpo : Hid ((Value.slice a xs.length c).ownBlock ≠ some p) := Lib.hid (fun e => H1.np (hFo p e))
        have hgo : Hid ((Value.slice a xs.length c).ownBlock ≠ some g) := Lib.hid (fun e => hFg0.out g (hFo g e) rfl)
        clear hrow hpe H1 hown hFo
        refine wp_region_held_drew (S := (fun w' => w'.cell? ⟨g, 0, none⟩ = some (.int .i64 x.client) ∧ w'.cell? ⟨g, 1, none⟩ = some (.int .i64 x.num) ∧ w'.cell? ⟨g, 2, none⟩ = some (.int .i64 x.kind) ∧ w'.cell? ⟨g, 3, none⟩ = some (.string x.sku) ∧ w'.cell? ⟨g, 4, none⟩ = some (.int .i64 x.order) ∧ w'.cell? ⟨g, 5, none⟩ = some (.int .i64 x.n) ∧ w'.cell? ⟨g, 6, none⟩ = some (.slice la x.lines.length lc))) (by kernel_rfl) ?_ (fun hHeld => ?_)
        · exact Zd
        refine wpAnyH_take (i := 0) (oi := { dst := some 20, op := Go.Op.move (Go.Operand.tmp 0), type := 23, pos := "pipe.go:58", after := #[], guard := none }) (v := ?_) rfl (by kernel_rfl) (by kernel_rfl) (by kernel_rfl) (fun _ _ _ h => h) (Or.inl ⟨by rfl, ?_⟩) (by assumption) ?_
        rotate_left
        · (intro w hSw; (try dsimp only at hSw); go_simp) <;> with_reducible rfl
        simp only [Act.put, List.setIfInBounds_toArray, List.set_cons_zero, List.set_cons_succ]
        refine wpAnyH_take (i := 1) (oi := { dst := some 21, op := Go.Op.move (Go.Operand.tmp 0), type := 23, pos := "pipe.go:58", after := #[], guard := none }) (v := ?_) rfl (by kernel_rfl) (by kernel_rfl) (by kernel_rfl) (fun _ _ _ h => h) (Or.inl ⟨by rfl, ?_⟩) (by assumption) ?_
        rotate_left
        · (intro w hSw; (try dsimp only at hSw); go_simp) <;> with_reducible rfl
        simp only [Act.put, List.setIfInBounds_toArray, List.set_cons_zero, List.set_cons_succ]
        refine wpAnyH_take (i := 2) (oi := { dst := some 22, op := Go.Op.nilCheck (Go.Operand.tmp 21), type := 0, pos := "pipe.go:58", after := #[{ on := 1, ground := Go.Ground.data }], guard := none }) (v := ?_) rfl (by kernel_rfl) (by kernel_rfl) (by kernel_rfl) (fun _ _ _ h => h) (Or.inl ⟨by rfl, ?_⟩) (by assumption) ?_
        rotate_left
        · (intro w hSw; (try dsimp only at hSw); go_simp) <;> with_reducible rfl
        simp only [Act.put, List.setIfInBounds_toArray, List.set_cons_zero, List.set_cons_succ]
        refine wpAnyH_take (i := 3) (oi := { dst := some 23, op := Go.Op.fieldAddr 67 (Go.Operand.tmp 22) 1, type := 0, pos := "pipe.go:58", after := #[{ on := 2, ground := Go.Ground.data }], guard := none }) (v := ?_) rfl (by kernel_rfl) (by kernel_rfl) (by kernel_rfl) (fun _ _ _ h => h) (Or.inl ⟨by rfl, ?_⟩) (by assumption) ?_
        rotate_left
        · (intro w hSw; (try dsimp only at hSw); go_simp) <;> with_reducible rfl
        simp only [Act.put, List.setIfInBounds_toArray, List.set_cons_zero, List.set_cons_succ]
        refine wpAnyH_take (i := 5) (oi := { dst := some 25, op := Go.Op.load 34 (Go.Operand.tmp 3), type := 34, pos := "pipe.go:58", after := #[], guard := none }) (v := ?_) rfl (by kernel_rfl) (by kernel_rfl) (by kernel_rfl) (fun _ _ _ h => h) (Or.inl ⟨by rfl, ?_⟩) (by assumption) ?_
        rotate_left
        · (intro w hSw; (try dsimp only at hSw); go_simp) <;> with_reducible rfl
        simp only [Act.put, List.setIfInBounds_toArray, List.set_cons_zero, List.set_cons_succ]
        refine wpAnyH_ready (rs := [4, 6]) (by kernel_rfl) (by simp) ?_
        refine AllReadyH.cons rfl (fun K hK => ?_) ?_
        · go_simp
          
          refine hK.out _ _ ?_ (fun hHeld => ?_)
          · exact Zd
          clear hK K
          (try simp only [Act.put, List.setIfInBounds_toArray, List.set_cons_zero, List.set_cons_succ])
          refine wpAnyH_ready (rs := [6]) (by kernel_rfl) (by simp) ?_
          refine AllReadyH.cons rfl (fun K hK => ?_) ?_
          · go_simp
            refine (ecopy_any _ _ _ _ _ _ _ _ _ Ld.out hll).mono ?_
            rintro e1 w2 ⟨v', rfl, hv', f2⟩
            obtain ⟨va, vc, rfl⟩ := hv'.cells
            dsimp only
            have q2 := f2.blk qd.out id
            have row2 := f2.blk rowd.out id
            have Z2 := (cells7 q2).1
            have c1b : w2.cell? ⟨p, 1, none⟩ = some (.slice a xs.length c) := cell_of_blk (o := 1) row2 rfl
            go_wp2_with fail
            refine hK.out _ _ ?_ (fun hHeld => ?_)
            · exact Z2
            clear hK K
            (try simp only [Act.put, List.setIfInBounds_toArray, List.set_cons_zero, List.set_cons_succ])
            refine wpAnyH_ready (rs := [7]) (by kernel_rfl) (by simp) ?_
            refine AllReadyH.cons rfl (fun K hK => ?_) ?_
            · go_simp
              obtain ⟨w3, hw3⟩ : ∃ w3, w3 = w2.alloc (.cells #[.int .i64 x.client, .int .i64 x.num, .int .i64 x.kind, .string x.sku, .int .i64 x.order, .int .i64 x.n, .slice va x.lines.length vc] 34) := ⟨_, rfl⟩
              have f3 : Fr none' w2 w3 := by rw [hw3]; exact (Fr.refl _ _).alloc _
              have hyx : Sl w3 (.slice (some ⟨w2.heap.size, 0, none⟩) 1 1) 7 1 (EV.cells ⟨x, .slice va x.lines.length vc⟩) := by rw [hw3]; exact ent_new w2 ⟨x, .slice va x.lines.length vc⟩ _ rfl
              rw [← hw3]
              clear hw3
              have f23 := f2.trans f3 (fun _ _ h => h)
              have q3 := f3.blk q2 id
              have row3 := f3.blk row2 id
              have hv3 := hv'.keep0 f3
              have Z3 := (cells7 q3).1
              have c1c : w3.cell? ⟨p, 1, none⟩ = some (.slice a xs.length c) := cell_of_blk (o := 1) row3 rfl
              refine hK.out _ _ ?_ (fun hHeld => ?_)
              · exact Z3
              clear hK K
              (try simp only [Act.put, List.setIfInBounds_toArray, List.set_cons_zero, List.set_cons_succ])
              refine wpAnyH_ready (rs := [8]) (by kernel_rfl) (by simp) ?_
              refine AllReadyH.cons (o := { dst := some 28, op := Go.Op.call { callee := Go.Callee.builtin Go.Builtin.append, args := #[Go.Operand.tmp 24, Go.Operand.tmp 27], argTypes := #[35, 35] }, type := 35, pos := "pipe.go:58", after := #[{ on := 4, ground := Go.Ground.data }, { on := 7, ground := Go.Ground.data }, { on := 6, ground := Go.Ground.chain }], guard := none }) rfl (fun K hK => ?_) ?_
              · refine step_app_own_sl (P := Tryd.prog) rfl (.tmp 24) (.tmp 27) 35 rfl 0 34 i0 _ 7 80 Tryd.underlying35 hi hz0 hz1 hz2 rfl (by decide) _ xs.length (entc xs) rfl (ownsRow_keep hownd.out f23 (fun _ _ h => h)) _ 1 _ rfl hyx (EV.one _ ⟨_, _, _, rfl⟩) (by omega) (by omega) (Nat.zero_le _) ?_
                intro v2 w4 ho2 hg2 hb2
                have F4 : Fr (fun b => (Value.slice a xs.length c).ownBlock = some b) w3 w4 := Fr.grown (Fr.refl _ _) hg2 (fun k hk => .inr hk)
                have q4 := F4.blk q3 (fun e => hgo.out e)
                have row4 := F4.blk row3 (fun e => hpo.out e)
                have hbb : (v2.ownBlock = vblk (.slice a xs.length c) ∧ ∀ b, vblk (.slice a xs.length c) = some b → F b ∧ b < w1.drew.heap.size) ∨ v2.ownBlock = some w3.heap.size := hb2.imp (fun e => ⟨by rw [hvo.out]; exact e, fun b e' => hSo.out b (by rw [← hvo.out]; exact e')⟩) id
                have hSS : ∀ b, (Value.slice a xs.length c).ownBlock = some b → F b ∧ vblk (.slice a xs.length c) = some b ∧ b < w1.drew.heap.size := fun b e => ⟨(hSo.out b e).1, by rw [hvo.out]; exact e, (hSo.out b e).2⟩
                obtain ⟨a2, c2, rfl⟩ : ∃ a2 c2, v2 = .slice a2 (xs.length + 1) c2 := by obtain ⟨a2, c2, h, _⟩ := Sl.of_own ho2; exact ⟨_, _, h⟩
                have Z4 := (cells7 q4).1
                have c14 : w4.cell? ⟨p, 1, none⟩ = some (.slice a xs.length c) := cell_of_blk (o := 1) row4 rfl
                have z14 : w4.frozen? ⟨p, 1, none⟩ = false := free_of_blk row4
                refine hK.out _ _ ?_ (fun hHeld => ?_)
                · exact Z4
                clear hK K
                (try simp only [Act.put, List.setIfInBounds_toArray, List.set_cons_zero, List.set_cons_succ])
                refine wpAnyH_take (i := 9) (oi := { dst := some 29, op := Go.Op.nilCheck (Go.Operand.tmp 20), type := 0, pos := "pipe.go:58", after := #[{ on := 0, ground := Go.Ground.data }, { on := 0, ground := Go.Ground.phase }, { on := 1, ground := Go.Ground.phase }, { on := 2, ground := Go.Ground.phase }, { on := 3, ground := Go.Ground.phase }, { on := 4, ground := Go.Ground.phase }, { on := 5, ground := Go.Ground.phase }, { on := 6, ground := Go.Ground.phase }, { on := 7, ground := Go.Ground.phase }, { on := 8, ground := Go.Ground.phase }], guard := none }) (v := ?_) rfl (by kernel_rfl) (by kernel_rfl) (by kernel_rfl) (fun _ _ _ h => h) (Or.inl ⟨by rfl, ?_⟩) (by assumption) ?_
                rotate_left
                · (intro w hSw; (try dsimp only at hSw); go_simp) <;> with_reducible rfl
                simp only [Act.put, List.setIfInBounds_toArray, List.set_cons_zero, List.set_cons_succ]
                refine wpAnyH_take (i := 10) (oi := { dst := some 30, op := Go.Op.fieldAddr 67 (Go.Operand.tmp 29) 1, type := 0, pos := "pipe.go:58", after := #[{ on := 9, ground := Go.Ground.data }, { on := 0, ground := Go.Ground.phase }, { on := 1, ground := Go.Ground.phase }, { on := 2, ground := Go.Ground.phase }, { on := 3, ground := Go.Ground.phase }, { on := 4, ground := Go.Ground.phase }, { on := 5, ground := Go.Ground.phase }, { on := 6, ground := Go.Ground.phase }, { on := 7, ground := Go.Ground.phase }, { on := 8, ground := Go.Ground.phase }], guard := none }) (v := ?_) rfl (by kernel_rfl) (by kernel_rfl) (by kernel_rfl) (fun _ _ _ h => h) (Or.inl ⟨by rfl, ?_⟩) (by assumption) ?_
                rotate_left
                · (intro w hSw; (try dsimp only at hSw); go_simp) <;> with_reducible rfl
                simp only [Act.put, List.setIfInBounds_toArray, List.set_cons_zero, List.set_cons_succ]
                refine wpAnyH_ready (rs := [11]) (by kernel_rfl) (by simp) ?_
                refine AllReadyH.cons rfl (fun K hK => ?_) ?_
                · go_simp
                  have q5 : (w4.setCell ⟨p, 1, none⟩ (.slice a2 (xs.length + 1) c2)).heap[g]? = _ := (blk_set_other (fun e => hgp.out e)).trans q4
                  have Z5 := (cells7 q5).1
                  refine hK.out _ _ ?_ (fun hHeld => ?_)
                  · exact Z5
                  clear hK K
                  (try simp only [Act.put, List.setIfInBounds_toArray, List.set_cons_zero, List.set_cons_succ])
                  refine wpAnyH_done (by kernel_rfl) ?_ _
                  obtain ⟨F', hF', hP', hFr'⟩ := Pp.push (y := ⟨x, .slice va x.lines.length vc⟩) rowd.out hpd.out hnp.out hfew hxwf.out hwfh.out f23 (hv3.mono (fun b hb => ⟨hb.1, Nat.lt_of_lt_of_le hb.2 f3.size⟩)) F4 hSS ho2 hbb
                  have hFh := Lib.hid hF'
                  have hPh := Lib.hid hP'
                  have hRh := Lib.hid hFr'
                  clear f23 f2 f3 q2 q3 q4 q5 row2 row3 row4 hv' hv3 hyx ho2 hbb hSS F4 Z2 Z3 Z4 Z5 c14 z14 hF' hP' hFr'
                  go_wp2_with fail
                  refine (ptop_any _ _ _ _ hPh.out hb).mono ?_
                  rintro e1 w' ⟨rfl, n, rfl⟩
                  rw [show ((xs ++ [EV.mk x (.slice va x.lines.length vc)]).length : Int) = (xs.length : Int) + 1 from by simp]
                  go_wp2_with fail
                  go_ret2
                  exact .inr (.inr ⟨hok.out, hfew, F', ⟨x, _⟩, rfl, rfl, fun i hi => (hFh.out i hi).imp id (fun h => Nat.le_trans f1d.out.size h), hPh.out.keep0 ((Fr.refl _ _).drewN n), ((f1d.out.mono (fun _ _ h => h.elim)).trans hRh.out (fun _ _ h => h)).drewN n⟩)
                exact AllReadyH.nil
              exact AllReadyH.nil
            exact AllReadyH.nil
          exact AllReadyH.nil
        refine AllReadyH.cons rfl (fun K hK => ?_) ?_
        · go_simp
          refine (ecopy_any _ _ _ _ _ _ _ _ _ Ld.out hll).mono ?_
          rintro e1 w2 ⟨v', rfl, hv', f2⟩
          obtain ⟨va, vc, rfl⟩ := hv'.cells
          dsimp only
          have q2 := f2.blk qd.out id
          have row2 := f2.blk rowd.out id
          have Z2 := (cells7 q2).1
          have c1b : w2.cell? ⟨p, 1, none⟩ = some (.slice a xs.length c) := cell_of_blk (o := 1) row2 rfl
          go_wp2_with fail
          refine hK.out _ _ ?_ (fun hHeld => ?_)
          · exact Z2
          clear hK K
          (try simp only [Act.put, List.setIfInBounds_toArray, List.set_cons_zero, List.set_cons_succ])
          refine wpAnyH_ready (rs := [4, 7]) (by kernel_rfl) (by simp) ?_
          refine AllReadyH.cons rfl (fun K hK => ?_) ?_
          · go_simp
            
            refine hK.out _ _ ?_ (fun hHeld => ?_)
            · exact Z2
            clear hK K
            (try simp only [Act.put, List.setIfInBounds_toArray, List.set_cons_zero, List.set_cons_succ])
            refine wpAnyH_ready (rs := [7]) (by kernel_rfl) (by simp) ?_
            refine AllReadyH.cons rfl (fun K hK => ?_) ?_
            · go_simp
              obtain ⟨w3, hw3⟩ : ∃ w3, w3 = w2.alloc (.cells #[.int .i64 x.client, .int .i64 x.num, .int .i64 x.kind, .string x.sku, .int .i64 x.order, .int .i64 x.n, .slice va x.lines.length vc] 34) := ⟨_, rfl⟩
              have f3 : Fr none' w2 w3 := by rw [hw3]; exact (Fr.refl _ _).alloc _
              have hyx : Sl w3 (.slice (some ⟨w2.heap.size, 0, none⟩) 1 1) 7 1 (EV.cells ⟨x, .slice va x.lines.length vc⟩) := by rw [hw3]; exact ent_new w2 ⟨x, .slice va x.lines.length vc⟩ _ rfl
              rw [← hw3]
              clear hw3
              have f23 := f2.trans f3 (fun _ _ h => h)
              have q3 := f3.blk q2 id
              have row3 := f3.blk row2 id
              have hv3 := hv'.keep0 f3
              have Z3 := (cells7 q3).1
              have c1c : w3.cell? ⟨p, 1, none⟩ = some (.slice a xs.length c) := cell_of_blk (o := 1) row3 rfl
              refine hK.out _ _ ?_ (fun hHeld => ?_)
              · exact Z3
              clear hK K
              (try simp only [Act.put, List.setIfInBounds_toArray, List.set_cons_zero, List.set_cons_succ])
              refine wpAnyH_ready (rs := [8]) (by kernel_rfl) (by simp) ?_
              refine AllReadyH.cons (o := { dst := some 28, op := Go.Op.call { callee := Go.Callee.builtin Go.Builtin.append, args := #[Go.Operand.tmp 24, Go.Operand.tmp 27], argTypes := #[35, 35] }, type := 35, pos := "pipe.go:58", after := #[{ on := 4, ground := Go.Ground.data }, { on := 7, ground := Go.Ground.data }, { on := 6, ground := Go.Ground.chain }], guard := none }) rfl (fun K hK => ?_) ?_
              · refine step_app_own_sl (P := Tryd.prog) rfl (.tmp 24) (.tmp 27) 35 rfl 0 34 i0 _ 7 80 Tryd.underlying35 hi hz0 hz1 hz2 rfl (by decide) _ xs.length (entc xs) rfl (ownsRow_keep hownd.out f23 (fun _ _ h => h)) _ 1 _ rfl hyx (EV.one _ ⟨_, _, _, rfl⟩) (by omega) (by omega) (Nat.zero_le _) ?_
                intro v2 w4 ho2 hg2 hb2
                have F4 : Fr (fun b => (Value.slice a xs.length c).ownBlock = some b) w3 w4 := Fr.grown (Fr.refl _ _) hg2 (fun k hk => .inr hk)
                have q4 := F4.blk q3 (fun e => hgo.out e)
                have row4 := F4.blk row3 (fun e => hpo.out e)
                have hbb : (v2.ownBlock = vblk (.slice a xs.length c) ∧ ∀ b, vblk (.slice a xs.length c) = some b → F b ∧ b < w1.drew.heap.size) ∨ v2.ownBlock = some w3.heap.size := hb2.imp (fun e => ⟨by rw [hvo.out]; exact e, fun b e' => hSo.out b (by rw [← hvo.out]; exact e')⟩) id
                have hSS : ∀ b, (Value.slice a xs.length c).ownBlock = some b → F b ∧ vblk (.slice a xs.length c) = some b ∧ b < w1.drew.heap.size := fun b e => ⟨(hSo.out b e).1, by rw [hvo.out]; exact e, (hSo.out b e).2⟩
                obtain ⟨a2, c2, rfl⟩ : ∃ a2 c2, v2 = .slice a2 (xs.length + 1) c2 := by obtain ⟨a2, c2, h, _⟩ := Sl.of_own ho2; exact ⟨_, _, h⟩
                have Z4 := (cells7 q4).1
                have c14 : w4.cell? ⟨p, 1, none⟩ = some (.slice a xs.length c) := cell_of_blk (o := 1) row4 rfl
                have z14 : w4.frozen? ⟨p, 1, none⟩ = false := free_of_blk row4
                refine hK.out _ _ ?_ (fun hHeld => ?_)
                · exact Z4
                clear hK K
                (try simp only [Act.put, List.setIfInBounds_toArray, List.set_cons_zero, List.set_cons_succ])
                refine wpAnyH_take (i := 9) (oi := { dst := some 29, op := Go.Op.nilCheck (Go.Operand.tmp 20), type := 0, pos := "pipe.go:58", after := #[{ on := 0, ground := Go.Ground.data }, { on := 0, ground := Go.Ground.phase }, { on := 1, ground := Go.Ground.phase }, { on := 2, ground := Go.Ground.phase }, { on := 3, ground := Go.Ground.phase }, { on := 4, ground := Go.Ground.phase }, { on := 5, ground := Go.Ground.phase }, { on := 6, ground := Go.Ground.phase }, { on := 7, ground := Go.Ground.phase }, { on := 8, ground := Go.Ground.phase }], guard := none }) (v := ?_) rfl (by kernel_rfl) (by kernel_rfl) (by kernel_rfl) (fun _ _ _ h => h) (Or.inl ⟨by rfl, ?_⟩) (by assumption) ?_
                rotate_left
                · (intro w hSw; (try dsimp only at hSw); go_simp) <;> with_reducible rfl
                simp only [Act.put, List.setIfInBounds_toArray, List.set_cons_zero, List.set_cons_succ]
                refine wpAnyH_take (i := 10) (oi := { dst := some 30, op := Go.Op.fieldAddr 67 (Go.Operand.tmp 29) 1, type := 0, pos := "pipe.go:58", after := #[{ on := 9, ground := Go.Ground.data }, { on := 0, ground := Go.Ground.phase }, { on := 1, ground := Go.Ground.phase }, { on := 2, ground := Go.Ground.phase }, { on := 3, ground := Go.Ground.phase }, { on := 4, ground := Go.Ground.phase }, { on := 5, ground := Go.Ground.phase }, { on := 6, ground := Go.Ground.phase }, { on := 7, ground := Go.Ground.phase }, { on := 8, ground := Go.Ground.phase }], guard := none }) (v := ?_) rfl (by kernel_rfl) (by kernel_rfl) (by kernel_rfl) (fun _ _ _ h => h) (Or.inl ⟨by rfl, ?_⟩) (by assumption) ?_
                rotate_left
                · (intro w hSw; (try dsimp only at hSw); go_simp) <;> with_reducible rfl
                simp only [Act.put, List.setIfInBounds_toArray, List.set_cons_zero, List.set_cons_succ]
                refine wpAnyH_ready (rs := [11]) (by kernel_rfl) (by simp) ?_
                refine AllReadyH.cons rfl (fun K hK => ?_) ?_
                · go_simp
                  have q5 : (w4.setCell ⟨p, 1, none⟩ (.slice a2 (xs.length + 1) c2)).heap[g]? = _ := (blk_set_other (fun e => hgp.out e)).trans q4
                  have Z5 := (cells7 q5).1
                  refine hK.out _ _ ?_ (fun hHeld => ?_)
                  · exact Z5
                  clear hK K
                  (try simp only [Act.put, List.setIfInBounds_toArray, List.set_cons_zero, List.set_cons_succ])
                  refine wpAnyH_done (by kernel_rfl) ?_ _
                  obtain ⟨F', hF', hP', hFr'⟩ := Pp.push (y := ⟨x, .slice va x.lines.length vc⟩) rowd.out hpd.out hnp.out hfew hxwf.out hwfh.out f23 (hv3.mono (fun b hb => ⟨hb.1, Nat.lt_of_lt_of_le hb.2 f3.size⟩)) F4 hSS ho2 hbb
                  have hFh := Lib.hid hF'
                  have hPh := Lib.hid hP'
                  have hRh := Lib.hid hFr'
                  clear f23 f2 f3 q2 q3 q4 q5 row2 row3 row4 hv' hv3 hyx ho2 hbb hSS F4 Z2 Z3 Z4 Z5 c14 z14 hF' hP' hFr'
                  go_wp2_with fail
                  refine (ptop_any _ _ _ _ hPh.out hb).mono ?_
                  rintro e1 w' ⟨rfl, n, rfl⟩
                  rw [show ((xs ++ [EV.mk x (.slice va x.lines.length vc)]).length : Int) = (xs.length : Int) + 1 from by simp]
                  go_wp2_with fail
                  go_ret2
                  exact .inr (.inr ⟨hok.out, hfew, F', ⟨x, _⟩, rfl, rfl, fun i hi => (hFh.out i hi).imp id (fun h => Nat.le_trans f1d.out.size h), hPh.out.keep0 ((Fr.refl _ _).drewN n), ((f1d.out.mono (fun _ _ h => h.elim)).trans hRh.out (fun _ _ h => h)).drewN n⟩)
                exact AllReadyH.nil
              exact AllReadyH.nil
            exact AllReadyH.nil
          refine AllReadyH.cons rfl (fun K hK => ?_) ?_
          · go_simp
            obtain ⟨w3, hw3⟩ : ∃ w3, w3 = w2.alloc (.cells #[.int .i64 x.client, .int .i64 x.num, .int .i64 x.kind, .string x.sku, .int .i64 x.order, .int .i64 x.n, .slice va x.lines.length vc] 34) := ⟨_, rfl⟩
            have f3 : Fr none' w2 w3 := by rw [hw3]; exact (Fr.refl _ _).alloc _
            have hyx : Sl w3 (.slice (some ⟨w2.heap.size, 0, none⟩) 1 1) 7 1 (EV.cells ⟨x, .slice va x.lines.length vc⟩) := by rw [hw3]; exact ent_new w2 ⟨x, .slice va x.lines.length vc⟩ _ rfl
            rw [← hw3]
            clear hw3
            have f23 := f2.trans f3 (fun _ _ h => h)
            have q3 := f3.blk q2 id
            have row3 := f3.blk row2 id
            have hv3 := hv'.keep0 f3
            have Z3 := (cells7 q3).1
            have c1c : w3.cell? ⟨p, 1, none⟩ = some (.slice a xs.length c) := cell_of_blk (o := 1) row3 rfl
            refine hK.out _ _ ?_ (fun hHeld => ?_)
            · exact Z3
            clear hK K
            (try simp only [Act.put, List.setIfInBounds_toArray, List.set_cons_zero, List.set_cons_succ])
            refine wpAnyH_ready (rs := [4]) (by kernel_rfl) (by simp) ?_
            refine AllReadyH.cons rfl (fun K hK => ?_) ?_
            · go_simp
              
              refine hK.out _ _ ?_ (fun hHeld => ?_)
              · exact Z3
              clear hK K
              (try simp only [Act.put, List.setIfInBounds_toArray, List.set_cons_zero, List.set_cons_succ])
              refine wpAnyH_ready (rs := [8]) (by kernel_rfl) (by simp) ?_
              refine AllReadyH.cons (o := { dst := some 28, op := Go.Op.call { callee := Go.Callee.builtin Go.Builtin.append, args := #[Go.Operand.tmp 24, Go.Operand.tmp 27], argTypes := #[35, 35] }, type := 35, pos := "pipe.go:58", after := #[{ on := 4, ground := Go.Ground.data }, { on := 7, ground := Go.Ground.data }, { on := 6, ground := Go.Ground.chain }], guard := none }) rfl (fun K hK => ?_) ?_
              · refine step_app_own_sl (P := Tryd.prog) rfl (.tmp 24) (.tmp 27) 35 rfl 0 34 i0 _ 7 80 Tryd.underlying35 hi hz0 hz1 hz2 rfl (by decide) _ xs.length (entc xs) rfl (ownsRow_keep hownd.out f23 (fun _ _ h => h)) _ 1 _ rfl hyx (EV.one _ ⟨_, _, _, rfl⟩) (by omega) (by omega) (Nat.zero_le _) ?_
                intro v2 w4 ho2 hg2 hb2
                have F4 : Fr (fun b => (Value.slice a xs.length c).ownBlock = some b) w3 w4 := Fr.grown (Fr.refl _ _) hg2 (fun k hk => .inr hk)
                have q4 := F4.blk q3 (fun e => hgo.out e)
                have row4 := F4.blk row3 (fun e => hpo.out e)
                have hbb : (v2.ownBlock = vblk (.slice a xs.length c) ∧ ∀ b, vblk (.slice a xs.length c) = some b → F b ∧ b < w1.drew.heap.size) ∨ v2.ownBlock = some w3.heap.size := hb2.imp (fun e => ⟨by rw [hvo.out]; exact e, fun b e' => hSo.out b (by rw [← hvo.out]; exact e')⟩) id
                have hSS : ∀ b, (Value.slice a xs.length c).ownBlock = some b → F b ∧ vblk (.slice a xs.length c) = some b ∧ b < w1.drew.heap.size := fun b e => ⟨(hSo.out b e).1, by rw [hvo.out]; exact e, (hSo.out b e).2⟩
                obtain ⟨a2, c2, rfl⟩ : ∃ a2 c2, v2 = .slice a2 (xs.length + 1) c2 := by obtain ⟨a2, c2, h, _⟩ := Sl.of_own ho2; exact ⟨_, _, h⟩
                have Z4 := (cells7 q4).1
                have c14 : w4.cell? ⟨p, 1, none⟩ = some (.slice a xs.length c) := cell_of_blk (o := 1) row4 rfl
                have z14 : w4.frozen? ⟨p, 1, none⟩ = false := free_of_blk row4
                refine hK.out _ _ ?_ (fun hHeld => ?_)
                · exact Z4
                clear hK K
                (try simp only [Act.put, List.setIfInBounds_toArray, List.set_cons_zero, List.set_cons_succ])
                refine wpAnyH_take (i := 9) (oi := { dst := some 29, op := Go.Op.nilCheck (Go.Operand.tmp 20), type := 0, pos := "pipe.go:58", after := #[{ on := 0, ground := Go.Ground.data }, { on := 0, ground := Go.Ground.phase }, { on := 1, ground := Go.Ground.phase }, { on := 2, ground := Go.Ground.phase }, { on := 3, ground := Go.Ground.phase }, { on := 4, ground := Go.Ground.phase }, { on := 5, ground := Go.Ground.phase }, { on := 6, ground := Go.Ground.phase }, { on := 7, ground := Go.Ground.phase }, { on := 8, ground := Go.Ground.phase }], guard := none }) (v := ?_) rfl (by kernel_rfl) (by kernel_rfl) (by kernel_rfl) (fun _ _ _ h => h) (Or.inl ⟨by rfl, ?_⟩) (by assumption) ?_
                rotate_left
                · (intro w hSw; (try dsimp only at hSw); go_simp) <;> with_reducible rfl
                simp only [Act.put, List.setIfInBounds_toArray, List.set_cons_zero, List.set_cons_succ]
                refine wpAnyH_take (i := 10) (oi := { dst := some 30, op := Go.Op.fieldAddr 67 (Go.Operand.tmp 29) 1, type := 0, pos := "pipe.go:58", after := #[{ on := 9, ground := Go.Ground.data }, { on := 0, ground := Go.Ground.phase }, { on := 1, ground := Go.Ground.phase }, { on := 2, ground := Go.Ground.phase }, { on := 3, ground := Go.Ground.phase }, { on := 4, ground := Go.Ground.phase }, { on := 5, ground := Go.Ground.phase }, { on := 6, ground := Go.Ground.phase }, { on := 7, ground := Go.Ground.phase }, { on := 8, ground := Go.Ground.phase }], guard := none }) (v := ?_) rfl (by kernel_rfl) (by kernel_rfl) (by kernel_rfl) (fun _ _ _ h => h) (Or.inl ⟨by rfl, ?_⟩) (by assumption) ?_
                rotate_left
                · (intro w hSw; (try dsimp only at hSw); go_simp) <;> with_reducible rfl
                simp only [Act.put, List.setIfInBounds_toArray, List.set_cons_zero, List.set_cons_succ]
                refine wpAnyH_ready (rs := [11]) (by kernel_rfl) (by simp) ?_
                refine AllReadyH.cons rfl (fun K hK => ?_) ?_
                · go_simp
                  have q5 : (w4.setCell ⟨p, 1, none⟩ (.slice a2 (xs.length + 1) c2)).heap[g]? = _ := (blk_set_other (fun e => hgp.out e)).trans q4
                  have Z5 := (cells7 q5).1
                  refine hK.out _ _ ?_ (fun hHeld => ?_)
                  · exact Z5
                  clear hK K
                  (try simp only [Act.put, List.setIfInBounds_toArray, List.set_cons_zero, List.set_cons_succ])
                  refine wpAnyH_done (by kernel_rfl) ?_ _
                  obtain ⟨F', hF', hP', hFr'⟩ := Pp.push (y := ⟨x, .slice va x.lines.length vc⟩) rowd.out hpd.out hnp.out hfew hxwf.out hwfh.out f23 (hv3.mono (fun b hb => ⟨hb.1, Nat.lt_of_lt_of_le hb.2 f3.size⟩)) F4 hSS ho2 hbb
                  have hFh := Lib.hid hF'
                  have hPh := Lib.hid hP'
                  have hRh := Lib.hid hFr'
                  clear f23 f2 f3 q2 q3 q4 q5 row2 row3 row4 hv' hv3 hyx ho2 hbb hSS F4 Z2 Z3 Z4 Z5 c14 z14 hF' hP' hFr'
                  go_wp2_with fail
                  refine (ptop_any _ _ _ _ hPh.out hb).mono ?_
                  rintro e1 w' ⟨rfl, n, rfl⟩
                  rw [show ((xs ++ [EV.mk x (.slice va x.lines.length vc)]).length : Int) = (xs.length : Int) + 1 from by simp]
                  go_wp2_with fail
                  go_ret2
                  exact .inr (.inr ⟨hok.out, hfew, F', ⟨x, _⟩, rfl, rfl, fun i hi => (hFh.out i hi).imp id (fun h => Nat.le_trans f1d.out.size h), hPh.out.keep0 ((Fr.refl _ _).drewN n), ((f1d.out.mono (fun _ _ h => h.elim)).trans hRh.out (fun _ _ h => h)).drewN n⟩)
                exact AllReadyH.nil
              exact AllReadyH.nil
            exact AllReadyH.nil
          exact AllReadyH.nil
        exact AllReadyH.nil
      · injection hful with e1 e2 e3
        obtain rfl : c = xs.length := e3.trans e2.symm
        clear e1 e2 e3 hrow hpe H1
        refine wp_region_held_drew (S := (fun w' => w'.cell? ⟨g, 0, none⟩ = some (.int .i64 x.client) ∧ w'.cell? ⟨g, 1, none⟩ = some (.int .i64 x.num) ∧ w'.cell? ⟨g, 2, none⟩ = some (.int .i64 x.kind) ∧ w'.cell? ⟨g, 3, none⟩ = some (.string x.sku) ∧ w'.cell? ⟨g, 4, none⟩ = some (.int .i64 x.order) ∧ w'.cell? ⟨g, 5, none⟩ = some (.int .i64 x.n) ∧ w'.cell? ⟨g, 6, none⟩ = some (.slice la x.lines.length lc))) (by kernel_rfl) ?_ (fun hHeld => ?_)
        · exact Zd
        refine wpAnyH_take (i := 0) (oi := { dst := some 20, op := Go.Op.move (Go.Operand.tmp 0), type := 23, pos := "pipe.go:58", after := #[], guard := none }) (v := ?_) rfl (by kernel_rfl) (by kernel_rfl) (by kernel_rfl) (fun _ _ _ h => h) (Or.inl ⟨by rfl, ?_⟩) (by assumption) ?_
        rotate_left
        · (intro w hSw; (try dsimp only at hSw); go_simp) <;> with_reducible rfl
        simp only [Act.put, List.setIfInBounds_toArray, List.set_cons_zero, List.set_cons_succ]
        refine wpAnyH_take (i := 1) (oi := { dst := some 21, op := Go.Op.move (Go.Operand.tmp 0), type := 23, pos := "pipe.go:58", after := #[], guard := none }) (v := ?_) rfl (by kernel_rfl) (by kernel_rfl) (by kernel_rfl) (fun _ _ _ h => h) (Or.inl ⟨by rfl, ?_⟩) (by assumption) ?_
        rotate_left
        · (intro w hSw; (try dsimp only at hSw); go_simp) <;> with_reducible rfl
        simp only [Act.put, List.setIfInBounds_toArray, List.set_cons_zero, List.set_cons_succ]
        refine wpAnyH_take (i := 2) (oi := { dst := some 22, op := Go.Op.nilCheck (Go.Operand.tmp 21), type := 0, pos := "pipe.go:58", after := #[{ on := 1, ground := Go.Ground.data }], guard := none }) (v := ?_) rfl (by kernel_rfl) (by kernel_rfl) (by kernel_rfl) (fun _ _ _ h => h) (Or.inl ⟨by rfl, ?_⟩) (by assumption) ?_
        rotate_left
        · (intro w hSw; (try dsimp only at hSw); go_simp) <;> with_reducible rfl
        simp only [Act.put, List.setIfInBounds_toArray, List.set_cons_zero, List.set_cons_succ]
        refine wpAnyH_take (i := 3) (oi := { dst := some 23, op := Go.Op.fieldAddr 67 (Go.Operand.tmp 22) 1, type := 0, pos := "pipe.go:58", after := #[{ on := 2, ground := Go.Ground.data }], guard := none }) (v := ?_) rfl (by kernel_rfl) (by kernel_rfl) (by kernel_rfl) (fun _ _ _ h => h) (Or.inl ⟨by rfl, ?_⟩) (by assumption) ?_
        rotate_left
        · (intro w hSw; (try dsimp only at hSw); go_simp) <;> with_reducible rfl
        simp only [Act.put, List.setIfInBounds_toArray, List.set_cons_zero, List.set_cons_succ]
        refine wpAnyH_take (i := 5) (oi := { dst := some 25, op := Go.Op.load 34 (Go.Operand.tmp 3), type := 34, pos := "pipe.go:58", after := #[], guard := none }) (v := ?_) rfl (by kernel_rfl) (by kernel_rfl) (by kernel_rfl) (fun _ _ _ h => h) (Or.inl ⟨by rfl, ?_⟩) (by assumption) ?_
        rotate_left
        · (intro w hSw; (try dsimp only at hSw); go_simp) <;> with_reducible rfl
        simp only [Act.put, List.setIfInBounds_toArray, List.set_cons_zero, List.set_cons_succ]
        refine wpAnyH_ready (rs := [4, 6]) (by kernel_rfl) (by simp) ?_
        refine AllReadyH.cons rfl (fun K hK => ?_) ?_
        · go_simp
          
          refine hK.out _ _ ?_ (fun hHeld => ?_)
          · exact Zd
          clear hK K
          (try simp only [Act.put, List.setIfInBounds_toArray, List.set_cons_zero, List.set_cons_succ])
          refine wpAnyH_ready (rs := [6]) (by kernel_rfl) (by simp) ?_
          refine AllReadyH.cons rfl (fun K hK => ?_) ?_
          · go_simp
            refine (ecopy_any _ _ _ _ _ _ _ _ _ Ld.out hll).mono ?_
            rintro e1 w2 ⟨v', rfl, hv', f2⟩
            obtain ⟨va, vc, rfl⟩ := hv'.cells
            dsimp only
            have q2 := f2.blk qd.out id
            have row2 := f2.blk rowd.out id
            have Z2 := (cells7 q2).1
            have c1b : w2.cell? ⟨p, 1, none⟩ = some (.slice a xs.length xs.length) := cell_of_blk (o := 1) row2 rfl
            go_wp2_with fail
            refine hK.out _ _ ?_ (fun hHeld => ?_)
            · exact Z2
            clear hK K
            (try simp only [Act.put, List.setIfInBounds_toArray, List.set_cons_zero, List.set_cons_succ])
            refine wpAnyH_ready (rs := [7]) (by kernel_rfl) (by simp) ?_
            refine AllReadyH.cons rfl (fun K hK => ?_) ?_
            · go_simp
              obtain ⟨w3, hw3⟩ : ∃ w3, w3 = w2.alloc (.cells #[.int .i64 x.client, .int .i64 x.num, .int .i64 x.kind, .string x.sku, .int .i64 x.order, .int .i64 x.n, .slice va x.lines.length vc] 34) := ⟨_, rfl⟩
              have f3 : Fr none' w2 w3 := by rw [hw3]; exact (Fr.refl _ _).alloc _
              have hyx : Sl w3 (.slice (some ⟨w2.heap.size, 0, none⟩) 1 1) 7 1 (EV.cells ⟨x, .slice va x.lines.length vc⟩) := by rw [hw3]; exact ent_new w2 ⟨x, .slice va x.lines.length vc⟩ _ rfl
              rw [← hw3]
              clear hw3
              have f23 := f2.trans f3 (fun _ _ h => h)
              have q3 := f3.blk q2 id
              have row3 := f3.blk row2 id
              have hv3 := hv'.keep0 f3
              have Z3 := (cells7 q3).1
              have c1c : w3.cell? ⟨p, 1, none⟩ = some (.slice a xs.length xs.length) := cell_of_blk (o := 1) row3 rfl
              refine hK.out _ _ ?_ (fun hHeld => ?_)
              · exact Z3
              clear hK K
              (try simp only [Act.put, List.setIfInBounds_toArray, List.set_cons_zero, List.set_cons_succ])
              refine wpAnyH_ready (rs := [8]) (by kernel_rfl) (by simp) ?_
              refine AllReadyH.cons (o := { dst := some 28, op := Go.Op.call { callee := Go.Callee.builtin Go.Builtin.append, args := #[Go.Operand.tmp 24, Go.Operand.tmp 27], argTypes := #[35, 35] }, type := 35, pos := "pipe.go:58", after := #[{ on := 4, ground := Go.Ground.data }, { on := 7, ground := Go.Ground.data }, { on := 6, ground := Go.Ground.chain }], guard := none }) rfl (fun K hK => ?_) ?_
              · refine step_app_full (P := Tryd.prog) rfl (.tmp 24) (.tmp 27) 35 rfl 34 i0 _ 7 Tryd.underlying35 hi hz0 hz1 rfl a xs.length (entc xs) rfl (hpd.out.keep f23 (fun _ _ _ h => h)).sl _ 1 _ rfl hyx (EV.one _ ⟨_, _, _, rfl⟩) (by decide) (by omega) (by rw [hz2]; have := nextcap_small xs.length (by omega); omega) ?_
                intro v2 w4 ho2' F4 hb2
                have ho2 := ownsRow_base ho2' (Nat.zero_le _)
                have q4 := F4.blk q3 id
                have row4 := F4.blk row3 id
                have hbb : (v2.ownBlock = vblk (.slice a xs.length xs.length) ∧ ∀ b, vblk (.slice a xs.length xs.length) = some b → F b ∧ b < w1.drew.heap.size) ∨ v2.ownBlock = some w3.heap.size := .inr hb2
                have hSS : ∀ b, none' b → F b ∧ vblk (.slice a xs.length xs.length) = some b ∧ b < w1.drew.heap.size := fun _ h => h.elim
                obtain ⟨a2, c2, rfl⟩ : ∃ a2 c2, v2 = .slice a2 (xs.length + 1) c2 := by obtain ⟨a2, c2, h, _⟩ := Sl.of_own ho2; exact ⟨_, _, h⟩
                have Z4 := (cells7 q4).1
                have c14 : w4.cell? ⟨p, 1, none⟩ = some (.slice a xs.length xs.length) := cell_of_blk (o := 1) row4 rfl
                have z14 : w4.frozen? ⟨p, 1, none⟩ = false := free_of_blk row4
                refine hK.out _ _ ?_ (fun hHeld => ?_)
                · exact Z4
                clear hK K
                (try simp only [Act.put, List.setIfInBounds_toArray, List.set_cons_zero, List.set_cons_succ])
                refine wpAnyH_take (i := 9) (oi := { dst := some 29, op := Go.Op.nilCheck (Go.Operand.tmp 20), type := 0, pos := "pipe.go:58", after := #[{ on := 0, ground := Go.Ground.data }, { on := 0, ground := Go.Ground.phase }, { on := 1, ground := Go.Ground.phase }, { on := 2, ground := Go.Ground.phase }, { on := 3, ground := Go.Ground.phase }, { on := 4, ground := Go.Ground.phase }, { on := 5, ground := Go.Ground.phase }, { on := 6, ground := Go.Ground.phase }, { on := 7, ground := Go.Ground.phase }, { on := 8, ground := Go.Ground.phase }], guard := none }) (v := ?_) rfl (by kernel_rfl) (by kernel_rfl) (by kernel_rfl) (fun _ _ _ h => h) (Or.inl ⟨by rfl, ?_⟩) (by assumption) ?_
                rotate_left
                · (intro w hSw; (try dsimp only at hSw); go_simp) <;> with_reducible rfl
                simp only [Act.put, List.setIfInBounds_toArray, List.set_cons_zero, List.set_cons_succ]
                refine wpAnyH_take (i := 10) (oi := { dst := some 30, op := Go.Op.fieldAddr 67 (Go.Operand.tmp 29) 1, type := 0, pos := "pipe.go:58", after := #[{ on := 9, ground := Go.Ground.data }, { on := 0, ground := Go.Ground.phase }, { on := 1, ground := Go.Ground.phase }, { on := 2, ground := Go.Ground.phase }, { on := 3, ground := Go.Ground.phase }, { on := 4, ground := Go.Ground.phase }, { on := 5, ground := Go.Ground.phase }, { on := 6, ground := Go.Ground.phase }, { on := 7, ground := Go.Ground.phase }, { on := 8, ground := Go.Ground.phase }], guard := none }) (v := ?_) rfl (by kernel_rfl) (by kernel_rfl) (by kernel_rfl) (fun _ _ _ h => h) (Or.inl ⟨by rfl, ?_⟩) (by assumption) ?_
                rotate_left
                · (intro w hSw; (try dsimp only at hSw); go_simp) <;> with_reducible rfl
                simp only [Act.put, List.setIfInBounds_toArray, List.set_cons_zero, List.set_cons_succ]
                refine wpAnyH_ready (rs := [11]) (by kernel_rfl) (by simp) ?_
                refine AllReadyH.cons rfl (fun K hK => ?_) ?_
                · go_simp
                  have q5 : (w4.setCell ⟨p, 1, none⟩ (.slice a2 (xs.length + 1) c2)).heap[g]? = _ := (blk_set_other (fun e => hgp.out e)).trans q4
                  have Z5 := (cells7 q5).1
                  refine hK.out _ _ ?_ (fun hHeld => ?_)
                  · exact Z5
                  clear hK K
                  (try simp only [Act.put, List.setIfInBounds_toArray, List.set_cons_zero, List.set_cons_succ])
                  refine wpAnyH_done (by kernel_rfl) ?_ _
                  obtain ⟨F', hF', hP', hFr'⟩ := Pp.push (y := ⟨x, .slice va x.lines.length vc⟩) rowd.out hpd.out hnp.out hfew hxwf.out hwfh.out f23 (hv3.mono (fun b hb => ⟨hb.1, Nat.lt_of_lt_of_le hb.2 f3.size⟩)) F4 hSS ho2 hbb
                  have hFh := Lib.hid hF'
                  have hPh := Lib.hid hP'
                  have hRh := Lib.hid hFr'
                  clear f23 f2 f3 q2 q3 q4 q5 row2 row3 row4 hv' hv3 hyx ho2 hbb hSS F4 Z2 Z3 Z4 Z5 c14 z14 hF' hP' hFr'
                  go_wp2_with fail
                  refine (ptop_any _ _ _ _ hPh.out hb).mono ?_
                  rintro e1 w' ⟨rfl, n, rfl⟩
                  rw [show ((xs ++ [EV.mk x (.slice va x.lines.length vc)]).length : Int) = (xs.length : Int) + 1 from by simp]
                  go_wp2_with fail
                  go_ret2
                  exact .inr (.inr ⟨hok.out, hfew, F', ⟨x, _⟩, rfl, rfl, fun i hi => (hFh.out i hi).imp id (fun h => Nat.le_trans f1d.out.size h), hPh.out.keep0 ((Fr.refl _ _).drewN n), ((f1d.out.mono (fun _ _ h => h.elim)).trans hRh.out (fun _ _ h => h)).drewN n⟩)
                exact AllReadyH.nil
              exact AllReadyH.nil
            exact AllReadyH.nil
          exact AllReadyH.nil
        refine AllReadyH.cons rfl (fun K hK => ?_) ?_
        · go_simp
          refine (ecopy_any _ _ _ _ _ _ _ _ _ Ld.out hll).mono ?_
          rintro e1 w2 ⟨v', rfl, hv', f2⟩
          obtain ⟨va, vc, rfl⟩ := hv'.cells
          dsimp only
          have q2 := f2.blk qd.out id
          have row2 := f2.blk rowd.out id
          have Z2 := (cells7 q2).1
          have c1b : w2.cell? ⟨p, 1, none⟩ = some (.slice a xs.length xs.length) := cell_of_blk (o := 1) row2 rfl
          go_wp2_with fail
          refine hK.out _ _ ?_ (fun hHeld => ?_)
          · exact Z2
          clear hK K
          (try simp only [Act.put, List.setIfInBounds_toArray, List.set_cons_zero, List.set_cons_succ])
          refine wpAnyH_ready (rs := [4, 7]) (by kernel_rfl) (by simp) ?_
          refine AllReadyH.cons rfl (fun K hK => ?_) ?_
          · go_simp
            
            refine hK.out _ _ ?_ (fun hHeld => ?_)
            · exact Z2
            clear hK K
            (try simp only [Act.put, List.setIfInBounds_toArray, List.set_cons_zero, List.set_cons_succ])
            refine wpAnyH_ready (rs := [7]) (by kernel_rfl) (by simp) ?_
            refine AllReadyH.cons rfl (fun K hK => ?_) ?_
            · go_simp
              obtain ⟨w3, hw3⟩ : ∃ w3, w3 = w2.alloc (.cells #[.int .i64 x.client, .int .i64 x.num, .int .i64 x.kind, .string x.sku, .int .i64 x.order, .int .i64 x.n, .slice va x.lines.length vc] 34) := ⟨_, rfl⟩
              have f3 : Fr none' w2 w3 := by rw [hw3]; exact (Fr.refl _ _).alloc _
              have hyx : Sl w3 (.slice (some ⟨w2.heap.size, 0, none⟩) 1 1) 7 1 (EV.cells ⟨x, .slice va x.lines.length vc⟩) := by rw [hw3]; exact ent_new w2 ⟨x, .slice va x.lines.length vc⟩ _ rfl
              rw [← hw3]
              clear hw3
              have f23 := f2.trans f3 (fun _ _ h => h)
              have q3 := f3.blk q2 id
              have row3 := f3.blk row2 id
              have hv3 := hv'.keep0 f3
              have Z3 := (cells7 q3).1
              have c1c : w3.cell? ⟨p, 1, none⟩ = some (.slice a xs.length xs.length) := cell_of_blk (o := 1) row3 rfl
              refine hK.out _ _ ?_ (fun hHeld => ?_)
              · exact Z3
              clear hK K
              (try simp only [Act.put, List.setIfInBounds_toArray, List.set_cons_zero, List.set_cons_succ])
              refine wpAnyH_ready (rs := [8]) (by kernel_rfl) (by simp) ?_
              refine AllReadyH.cons (o := { dst := some 28, op := Go.Op.call { callee := Go.Callee.builtin Go.Builtin.append, args := #[Go.Operand.tmp 24, Go.Operand.tmp 27], argTypes := #[35, 35] }, type := 35, pos := "pipe.go:58", after := #[{ on := 4, ground := Go.Ground.data }, { on := 7, ground := Go.Ground.data }, { on := 6, ground := Go.Ground.chain }], guard := none }) rfl (fun K hK => ?_) ?_
              · refine step_app_full (P := Tryd.prog) rfl (.tmp 24) (.tmp 27) 35 rfl 34 i0 _ 7 Tryd.underlying35 hi hz0 hz1 rfl a xs.length (entc xs) rfl (hpd.out.keep f23 (fun _ _ _ h => h)).sl _ 1 _ rfl hyx (EV.one _ ⟨_, _, _, rfl⟩) (by decide) (by omega) (by rw [hz2]; have := nextcap_small xs.length (by omega); omega) ?_
                intro v2 w4 ho2' F4 hb2
                have ho2 := ownsRow_base ho2' (Nat.zero_le _)
                have q4 := F4.blk q3 id
                have row4 := F4.blk row3 id
                have hbb : (v2.ownBlock = vblk (.slice a xs.length xs.length) ∧ ∀ b, vblk (.slice a xs.length xs.length) = some b → F b ∧ b < w1.drew.heap.size) ∨ v2.ownBlock = some w3.heap.size := .inr hb2
                have hSS : ∀ b, none' b → F b ∧ vblk (.slice a xs.length xs.length) = some b ∧ b < w1.drew.heap.size := fun _ h => h.elim
                obtain ⟨a2, c2, rfl⟩ : ∃ a2 c2, v2 = .slice a2 (xs.length + 1) c2 := by obtain ⟨a2, c2, h, _⟩ := Sl.of_own ho2; exact ⟨_, _, h⟩
                have Z4 := (cells7 q4).1
                have c14 : w4.cell? ⟨p, 1, none⟩ = some (.slice a xs.length xs.length) := cell_of_blk (o := 1) row4 rfl
                have z14 : w4.frozen? ⟨p, 1, none⟩ = false := free_of_blk row4
                refine hK.out _ _ ?_ (fun hHeld => ?_)
                · exact Z4
                clear hK K
                (try simp only [Act.put, List.setIfInBounds_toArray, List.set_cons_zero, List.set_cons_succ])
                refine wpAnyH_take (i := 9) (oi := { dst := some 29, op := Go.Op.nilCheck (Go.Operand.tmp 20), type := 0, pos := "pipe.go:58", after := #[{ on := 0, ground := Go.Ground.data }, { on := 0, ground := Go.Ground.phase }, { on := 1, ground := Go.Ground.phase }, { on := 2, ground := Go.Ground.phase }, { on := 3, ground := Go.Ground.phase }, { on := 4, ground := Go.Ground.phase }, { on := 5, ground := Go.Ground.phase }, { on := 6, ground := Go.Ground.phase }, { on := 7, ground := Go.Ground.phase }, { on := 8, ground := Go.Ground.phase }], guard := none }) (v := ?_) rfl (by kernel_rfl) (by kernel_rfl) (by kernel_rfl) (fun _ _ _ h => h) (Or.inl ⟨by rfl, ?_⟩) (by assumption) ?_
                rotate_left
                · (intro w hSw; (try dsimp only at hSw); go_simp) <;> with_reducible rfl
                simp only [Act.put, List.setIfInBounds_toArray, List.set_cons_zero, List.set_cons_succ]
                refine wpAnyH_take (i := 10) (oi := { dst := some 30, op := Go.Op.fieldAddr 67 (Go.Operand.tmp 29) 1, type := 0, pos := "pipe.go:58", after := #[{ on := 9, ground := Go.Ground.data }, { on := 0, ground := Go.Ground.phase }, { on := 1, ground := Go.Ground.phase }, { on := 2, ground := Go.Ground.phase }, { on := 3, ground := Go.Ground.phase }, { on := 4, ground := Go.Ground.phase }, { on := 5, ground := Go.Ground.phase }, { on := 6, ground := Go.Ground.phase }, { on := 7, ground := Go.Ground.phase }, { on := 8, ground := Go.Ground.phase }], guard := none }) (v := ?_) rfl (by kernel_rfl) (by kernel_rfl) (by kernel_rfl) (fun _ _ _ h => h) (Or.inl ⟨by rfl, ?_⟩) (by assumption) ?_
                rotate_left
                · (intro w hSw; (try dsimp only at hSw); go_simp) <;> with_reducible rfl
                simp only [Act.put, List.setIfInBounds_toArray, List.set_cons_zero, List.set_cons_succ]
                refine wpAnyH_ready (rs := [11]) (by kernel_rfl) (by simp) ?_
                refine AllReadyH.cons rfl (fun K hK => ?_) ?_
                · go_simp
                  have q5 : (w4.setCell ⟨p, 1, none⟩ (.slice a2 (xs.length + 1) c2)).heap[g]? = _ := (blk_set_other (fun e => hgp.out e)).trans q4
                  have Z5 := (cells7 q5).1
                  refine hK.out _ _ ?_ (fun hHeld => ?_)
                  · exact Z5
                  clear hK K
                  (try simp only [Act.put, List.setIfInBounds_toArray, List.set_cons_zero, List.set_cons_succ])
                  refine wpAnyH_done (by kernel_rfl) ?_ _
                  obtain ⟨F', hF', hP', hFr'⟩ := Pp.push (y := ⟨x, .slice va x.lines.length vc⟩) rowd.out hpd.out hnp.out hfew hxwf.out hwfh.out f23 (hv3.mono (fun b hb => ⟨hb.1, Nat.lt_of_lt_of_le hb.2 f3.size⟩)) F4 hSS ho2 hbb
                  have hFh := Lib.hid hF'
                  have hPh := Lib.hid hP'
                  have hRh := Lib.hid hFr'
                  clear f23 f2 f3 q2 q3 q4 q5 row2 row3 row4 hv' hv3 hyx ho2 hbb hSS F4 Z2 Z3 Z4 Z5 c14 z14 hF' hP' hFr'
                  go_wp2_with fail
                  refine (ptop_any _ _ _ _ hPh.out hb).mono ?_
                  rintro e1 w' ⟨rfl, n, rfl⟩
                  rw [show ((xs ++ [EV.mk x (.slice va x.lines.length vc)]).length : Int) = (xs.length : Int) + 1 from by simp]
                  go_wp2_with fail
                  go_ret2
                  exact .inr (.inr ⟨hok.out, hfew, F', ⟨x, _⟩, rfl, rfl, fun i hi => (hFh.out i hi).imp id (fun h => Nat.le_trans f1d.out.size h), hPh.out.keep0 ((Fr.refl _ _).drewN n), ((f1d.out.mono (fun _ _ h => h.elim)).trans hRh.out (fun _ _ h => h)).drewN n⟩)
                exact AllReadyH.nil
              exact AllReadyH.nil
            exact AllReadyH.nil
          refine AllReadyH.cons rfl (fun K hK => ?_) ?_
          · go_simp
            obtain ⟨w3, hw3⟩ : ∃ w3, w3 = w2.alloc (.cells #[.int .i64 x.client, .int .i64 x.num, .int .i64 x.kind, .string x.sku, .int .i64 x.order, .int .i64 x.n, .slice va x.lines.length vc] 34) := ⟨_, rfl⟩
            have f3 : Fr none' w2 w3 := by rw [hw3]; exact (Fr.refl _ _).alloc _
            have hyx : Sl w3 (.slice (some ⟨w2.heap.size, 0, none⟩) 1 1) 7 1 (EV.cells ⟨x, .slice va x.lines.length vc⟩) := by rw [hw3]; exact ent_new w2 ⟨x, .slice va x.lines.length vc⟩ _ rfl
            rw [← hw3]
            clear hw3
            have f23 := f2.trans f3 (fun _ _ h => h)
            have q3 := f3.blk q2 id
            have row3 := f3.blk row2 id
            have hv3 := hv'.keep0 f3
            have Z3 := (cells7 q3).1
            have c1c : w3.cell? ⟨p, 1, none⟩ = some (.slice a xs.length xs.length) := cell_of_blk (o := 1) row3 rfl
            refine hK.out _ _ ?_ (fun hHeld => ?_)
            · exact Z3
            clear hK K
            (try simp only [Act.put, List.setIfInBounds_toArray, List.set_cons_zero, List.set_cons_succ])
            refine wpAnyH_ready (rs := [4]) (by kernel_rfl) (by simp) ?_
            refine AllReadyH.cons rfl (fun K hK => ?_) ?_
            · go_simp
              
              refine hK.out _ _ ?_ (fun hHeld => ?_)
              · exact Z3
              clear hK K
              (try simp only [Act.put, List.setIfInBounds_toArray, List.set_cons_zero, List.set_cons_succ])
              refine wpAnyH_ready (rs := [8]) (by kernel_rfl) (by simp) ?_
              refine AllReadyH.cons (o := { dst := some 28, op := Go.Op.call { callee := Go.Callee.builtin Go.Builtin.append, args := #[Go.Operand.tmp 24, Go.Operand.tmp 27], argTypes := #[35, 35] }, type := 35, pos := "pipe.go:58", after := #[{ on := 4, ground := Go.Ground.data }, { on := 7, ground := Go.Ground.data }, { on := 6, ground := Go.Ground.chain }], guard := none }) rfl (fun K hK => ?_) ?_
              · refine step_app_full (P := Tryd.prog) rfl (.tmp 24) (.tmp 27) 35 rfl 34 i0 _ 7 Tryd.underlying35 hi hz0 hz1 rfl a xs.length (entc xs) rfl (hpd.out.keep f23 (fun _ _ _ h => h)).sl _ 1 _ rfl hyx (EV.one _ ⟨_, _, _, rfl⟩) (by decide) (by omega) (by rw [hz2]; have := nextcap_small xs.length (by omega); omega) ?_
                intro v2 w4 ho2' F4 hb2
                have ho2 := ownsRow_base ho2' (Nat.zero_le _)
                have q4 := F4.blk q3 id
                have row4 := F4.blk row3 id
                have hbb : (v2.ownBlock = vblk (.slice a xs.length xs.length) ∧ ∀ b, vblk (.slice a xs.length xs.length) = some b → F b ∧ b < w1.drew.heap.size) ∨ v2.ownBlock = some w3.heap.size := .inr hb2
                have hSS : ∀ b, none' b → F b ∧ vblk (.slice a xs.length xs.length) = some b ∧ b < w1.drew.heap.size := fun _ h => h.elim
                obtain ⟨a2, c2, rfl⟩ : ∃ a2 c2, v2 = .slice a2 (xs.length + 1) c2 := by obtain ⟨a2, c2, h, _⟩ := Sl.of_own ho2; exact ⟨_, _, h⟩
                have Z4 := (cells7 q4).1
                have c14 : w4.cell? ⟨p, 1, none⟩ = some (.slice a xs.length xs.length) := cell_of_blk (o := 1) row4 rfl
                have z14 : w4.frozen? ⟨p, 1, none⟩ = false := free_of_blk row4
                refine hK.out _ _ ?_ (fun hHeld => ?_)
                · exact Z4
                clear hK K
                (try simp only [Act.put, List.setIfInBounds_toArray, List.set_cons_zero, List.set_cons_succ])
                refine wpAnyH_take (i := 9) (oi := { dst := some 29, op := Go.Op.nilCheck (Go.Operand.tmp 20), type := 0, pos := "pipe.go:58", after := #[{ on := 0, ground := Go.Ground.data }, { on := 0, ground := Go.Ground.phase }, { on := 1, ground := Go.Ground.phase }, { on := 2, ground := Go.Ground.phase }, { on := 3, ground := Go.Ground.phase }, { on := 4, ground := Go.Ground.phase }, { on := 5, ground := Go.Ground.phase }, { on := 6, ground := Go.Ground.phase }, { on := 7, ground := Go.Ground.phase }, { on := 8, ground := Go.Ground.phase }], guard := none }) (v := ?_) rfl (by kernel_rfl) (by kernel_rfl) (by kernel_rfl) (fun _ _ _ h => h) (Or.inl ⟨by rfl, ?_⟩) (by assumption) ?_
                rotate_left
                · (intro w hSw; (try dsimp only at hSw); go_simp) <;> with_reducible rfl
                simp only [Act.put, List.setIfInBounds_toArray, List.set_cons_zero, List.set_cons_succ]
                refine wpAnyH_take (i := 10) (oi := { dst := some 30, op := Go.Op.fieldAddr 67 (Go.Operand.tmp 29) 1, type := 0, pos := "pipe.go:58", after := #[{ on := 9, ground := Go.Ground.data }, { on := 0, ground := Go.Ground.phase }, { on := 1, ground := Go.Ground.phase }, { on := 2, ground := Go.Ground.phase }, { on := 3, ground := Go.Ground.phase }, { on := 4, ground := Go.Ground.phase }, { on := 5, ground := Go.Ground.phase }, { on := 6, ground := Go.Ground.phase }, { on := 7, ground := Go.Ground.phase }, { on := 8, ground := Go.Ground.phase }], guard := none }) (v := ?_) rfl (by kernel_rfl) (by kernel_rfl) (by kernel_rfl) (fun _ _ _ h => h) (Or.inl ⟨by rfl, ?_⟩) (by assumption) ?_
                rotate_left
                · (intro w hSw; (try dsimp only at hSw); go_simp) <;> with_reducible rfl
                simp only [Act.put, List.setIfInBounds_toArray, List.set_cons_zero, List.set_cons_succ]
                refine wpAnyH_ready (rs := [11]) (by kernel_rfl) (by simp) ?_
                refine AllReadyH.cons rfl (fun K hK => ?_) ?_
                · go_simp
                  have q5 : (w4.setCell ⟨p, 1, none⟩ (.slice a2 (xs.length + 1) c2)).heap[g]? = _ := (blk_set_other (fun e => hgp.out e)).trans q4
                  have Z5 := (cells7 q5).1
                  refine hK.out _ _ ?_ (fun hHeld => ?_)
                  · exact Z5
                  clear hK K
                  (try simp only [Act.put, List.setIfInBounds_toArray, List.set_cons_zero, List.set_cons_succ])
                  refine wpAnyH_done (by kernel_rfl) ?_ _
                  obtain ⟨F', hF', hP', hFr'⟩ := Pp.push (y := ⟨x, .slice va x.lines.length vc⟩) rowd.out hpd.out hnp.out hfew hxwf.out hwfh.out f23 (hv3.mono (fun b hb => ⟨hb.1, Nat.lt_of_lt_of_le hb.2 f3.size⟩)) F4 hSS ho2 hbb
                  have hFh := Lib.hid hF'
                  have hPh := Lib.hid hP'
                  have hRh := Lib.hid hFr'
                  clear f23 f2 f3 q2 q3 q4 q5 row2 row3 row4 hv' hv3 hyx ho2 hbb hSS F4 Z2 Z3 Z4 Z5 c14 z14 hF' hP' hFr'
                  go_wp2_with fail
                  refine (ptop_any _ _ _ _ hPh.out hb).mono ?_
                  rintro e1 w' ⟨rfl, n, rfl⟩
                  rw [show ((xs ++ [EV.mk x (.slice va x.lines.length vc)]).length : Int) = (xs.length : Int) + 1 from by simp]
                  go_wp2_with fail
                  go_ret2
                  exact .inr (.inr ⟨hok.out, hfew, F', ⟨x, _⟩, rfl, rfl, fun i hi => (hFh.out i hi).imp id (fun h => Nat.le_trans f1d.out.size h), hPh.out.keep0 ((Fr.refl _ _).drewN n), ((f1d.out.mono (fun _ _ h => h.elim)).trans hRh.out (fun _ _ h => h)).drewN n⟩)
                exact AllReadyH.nil
              exact AllReadyH.nil
            exact AllReadyH.nil
          exact AllReadyH.nil
        exact AllReadyH.nil

end Go.Proofs.YtmhicplhfbnpaaaDoor
