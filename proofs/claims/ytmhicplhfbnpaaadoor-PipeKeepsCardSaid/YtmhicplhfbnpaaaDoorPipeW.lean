/-
  gimballaw12.works.
-/
import Derived.Test.YtmhicplhfbnpaaaDoorPipeG
import Derived.Test.YtmhicplhfbnpaaaDoorPipeL
namespace Go.Proofs.YtmhicplhfbnpaaaDoor
set_option linter.unusedVariables false
set_option linter.unusedSimpArgs false
open Go.RowKit

/-! ### A row that is written out -/
def evOf (e : Ent) : EV := ⟨e, .slice none 0 0⟩
theorem evOf_e (es : List Ent) : (es.map evOf).map EV.e = es := by
  induction es with
  | nil => rfl
  | cons e es ih => simp only [List.map_cons, ih]; rfl
theorem lit_ents {w : World} {b : Nat} {t : TypeId} (es : List Ent) (hn : ∀ e ∈ es, e.lines = []) (hb : w.heap[b]? = some (.cells (entc (es.map evOf)).toArray t (0, 0))) : EntsAt (fun i => i = b) w (.slice (some ⟨b, 0, none⟩) es.length es.length) (es.map evOf) := by
  refine ⟨⟨some ⟨b, 0, none⟩, es.length, by rw [List.length_map], by rw [List.length_map]; exact Nat.le_refl _, by rw [entc_length], (fun h => by cases h), fun _ => ⟨b, 0, rfl, fun _ => lt_of_blk hb, fun j u hj => ?_⟩⟩, fun a n c e _ => ?_, fun x hx => ?_⟩
  · refine cell_of_blk (o := 0 + j) hb ?_
    rw [Nat.zero_add, List.getElem?_toArray]
    exact hj
  · injection e with e1
    injection e1 with e1
    rw [← e1]
  · obtain ⟨e, he, rfl⟩ := List.mem_map.1 hx
    show LinesAt _ w (.slice none 0 0) e.lines
    rw [hn e he]
    exact LinesAt.nil _ _

/-! ### What Agree answers in the examples -/
theorem agree_1 {a b c : Ent} {r : Int} (hbc : b ≠ c) (h : AgreeR [a, b, c] [a, c] 5 5 r) : r = 6 := by
  unfold AgreeR at h
  rw [if_neg (by omega)] at h
  rw [show max (5 : Int) 0 = 5 from by decide] at h
  exact h.one (.inl ⟨1, (by simp <;> omega), (by omega), (fun j hj => by
    obtain rfl : j = 0 := by omega
    rfl), fun e => hbc (by simpa using e)⟩)
theorem agree_2 {a b c : Ent} {r : Int} (h : AgreeR [a, b, c] [b, c, a] 5 6 r) : r = 8 := by
  unfold AgreeR at h
  rw [if_neg (by omega)] at h
  rw [show max (6 : Int) 0 = 6 from by decide] at h
  exact h.one (.inr ⟨(by simp <;> omega), fun j hj => by
    have : j < 2 := by simp at hj; omega
    rcases (show j = 0 ∨ j = 1 by omega) with rfl | rfl <;> rfl⟩)
theorem agree_3 {a b c : Ent} {r : Int} (h : AgreeR [a, b, c] [a] 5 3 r) : r = 4 := by
  unfold AgreeR at h
  rw [if_neg (by omega)] at h
  rw [show max (3 : Int) 0 = 3 from by decide] at h
  exact h.one (.inr ⟨(by simp <;> omega), fun j hj => by simp at hj; omega⟩)
theorem agree_4 {a b c : Ent} {r : Int} (h : AgreeR [a, b, c] [c] 5 9 r) : r = 8 := by
  unfold AgreeR at h
  rw [if_neg (by omega)] at h
  rw [show max (9 : Int) 0 = 9 from by decide] at h
  exact h.one (.inr ⟨(by simp <;> omega), fun j hj => by simp at hj; omega⟩)

theorem three_of {ys : List EV} {a b c : Ent} (h : ys.map EV.e = [a, b, c]) : ∃ x y z : EV, ys = [x, y, z] ∧ x.e = a ∧ y.e = b ∧ z.e = c := by
  match ys, h with
  | [x, y, z], h => 
    simp at h
    exact ⟨x, y, z, rfl, h.1, h.2.1, h.2.2⟩
theorem one_of {ys : List EV} {a : Ent} (h : ys.map EV.e = [a]) : ∃ x : EV, ys = [x] ∧ x.e = a := by
  match ys, h with
  | [x], h => 
    simp at h
    exact ⟨x, rfl, h⟩
theorem askE_lines (n : Int) : (askE n).lines = [] := rfl
theorem asks_ne : askE 2 ≠ askE 3 := fun h => by
  have := congrArg Ent.client h
  revert this
  decide

set_option maxRecDepth 100000 in
set_option maxHeartbeats 8000000 in
theorem pworks_any (w : World) (hk : KindsAt w) :
    Calls Tryd.prog 14 #[] w fun e w' => e = .returned (.bool true) ∧ Fr none' w w' := by
  have hkh := Lib.hid hk
  clear hk
  go_enter Tryd.func14, Tryd.ntmps14
  go_wp2_with fail
  refine (asks_any 1 _).mono ?_
  rintro e w1 ⟨rfl, f1⟩
  go_wp2_with fail
  refine (asks_any 2 _).mono ?_
  rintro e w2 ⟨rfl, f2⟩
  go_wp2_with fail
  refine (asks_any 3 _).mono ?_
  rintro e w3 ⟨rfl, f3⟩
  have F3 := Lib.hid ((f1.trans f2 (fun _ _ h => h)).trans f3 (fun _ _ h => h))
  clear f1 f2 f3
  go_wp2_with fail
  have fA : Fr none' w3 (((w3.alloc (.cells #[.int .i64 (askE 1).client, .int .i64 (askE 1).num, .int .i64 (askE 1).kind, .string (askE 1).sku, .int .i64 (askE 1).order, .int .i64 (askE 1).n, .slice none 0 0] 34)).alloc (.cells #[.int .i64 (askE 2).client, .int .i64 (askE 2).num, .int .i64 (askE 2).kind, .string (askE 2).sku, .int .i64 (askE 2).order, .int .i64 (askE 2).n, .slice none 0 0] 34)).alloc (.cells #[.int .i64 (askE 3).client, .int .i64 (askE 3).num, .int .i64 (askE 3).kind, .string (askE 3).sku, .int .i64 (askE 3).order, .int .i64 (askE 3).n, .slice none 0 0] 34)) := (((Fr.refl _ _).alloc _).alloc _).alloc _
  generalize hA : ((w3.alloc (.cells #[.int .i64 (askE 1).client, .int .i64 (askE 1).num, .int .i64 (askE 1).kind, .string (askE 1).sku, .int .i64 (askE 1).order, .int .i64 (askE 1).n, .slice none 0 0] 34)).alloc (.cells #[.int .i64 (askE 2).client, .int .i64 (askE 2).num, .int .i64 (askE 2).kind, .string (askE 2).sku, .int .i64 (askE 2).order, .int .i64 (askE 2).n, .slice none 0 0] 34)).alloc (.cells #[.int .i64 (askE 3).client, .int .i64 (askE 3).num, .int .i64 (askE 3).kind, .string (askE 3).sku, .int .i64 (askE 3).order, .int .i64 (askE 3).n, .slice none 0 0] 34) = wA at fA ⊢
  have hX : wA.heap[w3.heap.size]? = some (.cells #[.int .i64 (askE 1).client, .int .i64 (askE 1).num, .int .i64 (askE 1).kind, .string (askE 1).sku, .int .i64 (askE 1).order, .int .i64 (askE 1).n, .slice none 0 0] 34 (0, 0)) := by rw [← hA]; (repeat (first | rw [blk_drew] | rw [blk_drewN] | rw [blk_alloc_old (by first | omega | (simp; done) | (simp; omega))] | rw [blk_set_other (by first | omega | (simp; done) | (simp; omega))] | rw [blk_alloc_new (by first | omega | (simp; done) | (simp; omega))]))
  have hY : wA.heap[w3.heap.size + 1]? = some (.cells #[.int .i64 (askE 2).client, .int .i64 (askE 2).num, .int .i64 (askE 2).kind, .string (askE 2).sku, .int .i64 (askE 2).order, .int .i64 (askE 2).n, .slice none 0 0] 34 (0, 0)) := by rw [← hA]; (repeat (first | rw [blk_drew] | rw [blk_drewN] | rw [blk_alloc_old (by first | omega | (simp; done) | (simp; omega))] | rw [blk_set_other (by first | omega | (simp; done) | (simp; omega))] | rw [blk_alloc_new (by first | omega | (simp; done) | (simp; omega))]))
  have hZ : wA.heap[w3.heap.size + 1 + 1]? = some (.cells #[.int .i64 (askE 3).client, .int .i64 (askE 3).num, .int .i64 (askE 3).kind, .string (askE 3).sku, .int .i64 (askE 3).order, .int .i64 (askE 3).n, .slice none 0 0] 34 (0, 0)) := by rw [← hA]; (repeat (first | rw [blk_drew] | rw [blk_drewN] | rw [blk_alloc_old (by first | omega | (simp; done) | (simp; omega))] | rw [blk_set_other (by first | omega | (simp; done) | (simp; omega))] | rw [blk_alloc_new (by first | omega | (simp; done) | (simp; omega))]))
  have hSz : w3.heap.size + 1 + 1 + 1 = wA.heap.size := by rw [← hA, World.size_alloc, World.size_alloc, World.size_alloc]
  rw [hSz]
  clear hA
  obtain ⟨bx, hbx⟩ : ∃ bx, bx = w3.heap.size := ⟨_, rfl⟩
  rw [← hbx] at hX hY hZ ⊢
  clear hSz hbx
  have FA := Lib.hid (F3.out.trans fA (fun _ _ h => h))
  clear F3 fA
  refine (filled_any 5 _ ([askE 1, askE 2, askE 3].map evOf) _ (lit_ents (t := 34) [askE 1, askE 2, askE 3] (by simp [askE_lines]) (blk_alloc_new rfl)) (by decide) (by simp [evOf, askE_wf, askE_ok]) (hkh.out.keep0 (FA.out.alloc _)) (by omega)).mono ?_
  rintro e w4 ⟨F, p, ys, rfl, hp, hF, hP, hy, f4⟩
  rw [evOf_e] at hy
  obtain ⟨y1, y2, y3, rfl, e1, e2, e3⟩   := three_of hy
  have hxp := lt_of_blk hX
  have hyp := lt_of_blk hY
  have hzp := lt_of_blk hZ
  simp only [World.size_alloc] at hp hF
  have hpA : wA.heap.size + 1 ≤ p := hp
  have hpW : w.heap.size ≤ p := by have := FA.out.size; omega
  have f4' := ((Fr.refl none' wA).alloc _).trans f4 (fun _ _ h => h)
  have FA4 := Lib.hid (FA.out.trans f4' (fun _ _ h => h))
  have hFh := Lib.hid (show ∀ i, F i → wA.heap.size < i from fun i hi => (hF i hi).1)
  have X4 := Lib.hid (f4'.blk hX id)
  have Y4 := Lib.hid (f4'.blk hY id)
  have Z4 := Lib.hid (f4'.blk hZ id)
  have P4 := Lib.hid hP
  have hy' := Lib.hid hy
  have e1h := Lib.hid e1
  have e2h := Lib.hid e2
  have e3h := Lib.hid e3
  have hxP : bx ≠ p ∧ bx + 1 ≠ p ∧ bx + 1 + 1 ≠ p := by omega
  have hxF := Lib.hid (show bx < wA.heap.size ∧ bx + 1 < wA.heap.size ∧ bx + 1 + 1 < wA.heap.size from ⟨hxp, hyp, hzp⟩)
  clear hX hY hZ hP hF hp f4 f4' hy e1 e2 e3 FA hpA
  go_wp2_with fail
  refine (pget_any p 5 6 _ _ P4.out (by omega) (by omega)).mono ?_
  rintro e w5 (⟨hi5, -, v', rfl, hl5, f5⟩ | ⟨h, -⟩)
  · have X5 := Lib.hid (f5.blk X4.out id)
    have Y5 := Lib.hid (f5.blk Y4.out id)
    have Z5 := Lib.hid (f5.blk Z4.out id)
    have P5 := Lib.hid (P4.out.keep0 f5)
    have FA5 := Lib.hid (FA4.out.trans f5 (fun _ _ h => h))
    have hl5' : LinesAt (New w4 w5) w5 v' (askE 1).lines := by
      have := hl5
      rw [show ([y1, y2, y3] : List EV)[((6 : Int) - 5 - 1).toNat].e = askE 1 from e1h.out] at this
      exact this
    rw [show ([y1, y2, y3] : List EV)[((6 : Int) - 5 - 1).toNat].e = askE 1 from e1h.out]
    obtain ⟨la, lc, rfl⟩ := hl5'.cells
    have hl5h := Lib.hid hl5'
    clear X4 Y4 Z4 P4 FA4 hl5 hl5'
    go_wp2_with fail
    refine (pget_any p 5 5 _ _ (P5.out.keep0 ((Fr.refl _ _).alloc _)) (by omega) (by omega)).mono ?_
    rintro e w6 (⟨hi6, h6, -⟩ | ⟨-, rfl, g6⟩)
    · omega
    have f6 := ((Fr.refl none' w5).alloc _).trans g6 (fun _ _ h => h)
    have a6 := Lib.hid (g6.blk (blk_alloc_new (w := w5) rfl) id)
    have hl6 := Lib.hid (hl5h.out.keep0 f6)
    have X6 := Lib.hid (f6.blk X5.out id)
    have Y6 := Lib.hid (f6.blk Y5.out id)
    have Z6 := Lib.hid (f6.blk Z5.out id)
    have P6 := Lib.hid (P5.out.keep0 f6)
    have FA6 := Lib.hid (FA5.out.trans f6 (fun _ _ h => h))
    clear X5 Y5 Z5 P5 FA5
    obtain ⟨q5, hq5⟩ : ∃ q, q = w5.heap.size := ⟨_, rfl⟩
    rw [← hq5] at a6 ⊢
    clear g6 f6 hl5h hq5
    go_wp2_with fail
    refine (ptop_any p 5 _ _ (P6.out.keep0 ((Fr.refl _ _).alloc _)) (by omega)).mono ?_
    rintro e w7 ⟨rfl, n7, h7⟩
    have f7 : Fr none' w6 w7 := by rw [h7]; exact ((Fr.refl _ _).alloc _).drewN _
    have ca := (cells7 (f7.blk a6.out id)).1
    have hl7 := Lib.hid (hl6.out.keep0 f7)
    have X7 := Lib.hid (f7.blk X6.out id)
    have Y7 := Lib.hid (f7.blk Y6.out id)
    have Z7 := Lib.hid (f7.blk Z6.out id)
    have P7 := Lib.hid (P6.out.keep0 f7)
    have FA7 := Lib.hid (FA6.out.trans f7 (fun _ _ h => h))
    clear X6 Y6 Z6 P6 FA6
    clear h7 f7 hl6 a6
    have cX := (cells7 X7.out).1
    go_wp2_with fail
    refine (esame_any (askE 1) (askE 1) _ _ _ hl7.out (LinesAt.nil (fun _ => True) _) (by decide) (by decide)).mono ?_
    rintro e w8 ⟨rfl, f8⟩
    rw [decide_eq_true rfl]
    have X8 := Lib.hid (f8.blk X7.out id)
    have Y8 := Lib.hid (f8.blk Y7.out id)
    have Z8 := Lib.hid (f8.blk Z7.out id)
    have P8 := Lib.hid (P7.out.keep0 f8)
    have FA8 := Lib.hid (FA7.out.trans f8 (fun _ _ h => h))
    clear X7 Y7 Z7 P7 FA7
    clear f8 hl7 ca cX
    have cX := (cells7 X8.out).1
    have cY := (cells7 Y8.out).1
    have cZ := (cells7 Z8.out).1
    go_wp2_with fail
    refine (pagree_any p 5 5 _ ([askE 1, askE 3].map evOf) _ _ (P8.out.keep0 ((Fr.refl _ _).alloc _)) (lit_ents (t := 34) [askE 1, askE 3] (by simp [askE_lines]) (blk_alloc_new rfl)) (by decide) (by simp [evOf, askE_lines]) (by omega) (by omega)).mono ?_
    rintro e w9 ⟨r, rfl, hR, -, -, g9⟩
    obtain rfl : r = 6 := agree_1 asks_ne (by have := hR.out; rwa [hy'.out, evOf_e] at this)
    have f9 := ((Fr.refl none' w8).alloc _).trans g9 (fun _ _ h => h)
    clear cX cY cZ
    have X9 := Lib.hid (f9.blk X8.out id)
    have Y9 := Lib.hid (f9.blk Y8.out id)
    have Z9 := Lib.hid (f9.blk Z8.out id)
    have P9 := Lib.hid (P8.out.keep0 f9)
    have FA9 := Lib.hid (FA8.out.trans f9 (fun _ _ h => h))
    clear X8 Y8 Z8 P8 FA8
    clear g9 f9 hR
    have cX := (cells7 X9.out).1
    have cY := (cells7 Y9.out).1
    have cZ := (cells7 Z9.out).1
    go_wp2_with fail
    refine (pagree_any p 5 6 _ ([askE 2, askE 3, askE 1].map evOf) _ _ (P9.out.keep0 ((Fr.refl _ _).alloc _)) (lit_ents (t := 34) [askE 2, askE 3, askE 1] (by simp [askE_lines]) (blk_alloc_new rfl)) (by decide) (by simp [evOf, askE_lines]) (by omega) (by omega)).mono ?_
    rintro e w10 ⟨r, rfl, hR, -, -, g10⟩
    obtain rfl : r = 8 := agree_2 (by have := hR.out; rwa [hy'.out, evOf_e] at this)
    have f10 := ((Fr.refl none' w9).alloc _).trans g10 (fun _ _ h => h)
    clear cX cY cZ
    have X10 := Lib.hid (f10.blk X9.out id)
    have Y10 := Lib.hid (f10.blk Y9.out id)
    have Z10 := Lib.hid (f10.blk Z9.out id)
    have P10 := Lib.hid (P9.out.keep0 f10)
    have FA10 := Lib.hid (FA9.out.trans f10 (fun _ _ h => h))
    clear X9 Y9 Z9 P9 FA9
    clear g10 f10 hR
    have cX := (cells7 X10.out).1
    have cY := (cells7 Y10.out).1
    have cZ := (cells7 Z10.out).1
    go_wp2_with fail
    refine (pagree_any p 5 3 _ ([askE 1].map evOf) _ _ (P10.out.keep0 ((Fr.refl _ _).alloc _)) (lit_ents (t := 34) [askE 1] (by simp [askE_lines]) (blk_alloc_new rfl)) (by decide) (by simp [evOf, askE_lines]) (by omega) (by omega)).mono ?_
    rintro e w11 ⟨r, rfl, hR, -, -, g11⟩
    obtain rfl : r = 4 := agree_3 (by have := hR.out; rwa [hy'.out, evOf_e] at this)
    have f11 := ((Fr.refl none' w10).alloc _).trans g11 (fun _ _ h => h)
    clear cX cY cZ
    have X11 := Lib.hid (f11.blk X10.out id)
    have Y11 := Lib.hid (f11.blk Y10.out id)
    have Z11 := Lib.hid (f11.blk Z10.out id)
    have P11 := Lib.hid (P10.out.keep0 f11)
    have FA11 := Lib.hid (FA10.out.trans f11 (fun _ _ h => h))
    clear X10 Y10 Z10 P10 FA10
    clear g11 f11 hR
    have cX := (cells7 X11.out).1
    have cY := (cells7 Y11.out).1
    have cZ := (cells7 Z11.out).1
    go_wp2_with fail
    refine (pagree_any p 5 9 _ ([askE 3].map evOf) _ _ (P11.out.keep0 ((Fr.refl _ _).alloc _)) (lit_ents (t := 34) [askE 3] (by simp [askE_lines]) (blk_alloc_new rfl)) (by decide) (by simp [evOf, askE_lines]) (by omega) (by omega)).mono ?_
    rintro e w12 ⟨r, rfl, hR, -, -, g12⟩
    obtain rfl : r = 8 := agree_4 (by have := hR.out; rwa [hy'.out, evOf_e] at this)
    have f12 := ((Fr.refl none' w11).alloc _).trans g12 (fun _ _ h => h)
    clear cX cY cZ
    have X12 := Lib.hid (f12.blk X11.out id)
    have Y12 := Lib.hid (f12.blk Y11.out id)
    have Z12 := Lib.hid (f12.blk Z11.out id)
    have P12 := Lib.hid (P11.out.keep0 f12)
    have FA12 := Lib.hid (FA11.out.trans f12 (fun _ _ h => h))
    clear X11 Y11 Z11 P11 FA11
    clear g12 f12 hR
    have cX := (cells7 X12.out).1
    have cY := (cells7 Y12.out).1
    have cZ := (cells7 Z12.out).1
    go_wp2_with fail
    clear cX cY cZ
    refine (pcut_any p 5 7 _ _ P12.out (by omega) (by omega)).mono ?_
    rintro e w13 (⟨-, rfl, Q13, f13⟩ | ⟨h, -⟩)
    · have Y13 := Lib.hid (f13.blk Y12.out hxP.2.1)
      have FA13 := Lib.hid (FA12.out.trans f13 (S := none') (fun i hi e => by cases e; omega))
      have P13 := Lib.hid Q13
      clear X12 Y12 Z12 P12 FA12 f13 Q13
      go_wp2_with fail
      refine (ptrim_any p 5 6 _ _ P13.out (by omega) (by omega)).mono ?_
      rintro e w14 (⟨-, rfl, Q14, f14⟩ | ⟨h, -⟩)
      · have Y14 := Lib.hid (f14.blk Y13.out hxP.2.1)
        have FA14 := Lib.hid (FA13.out.trans f14 (S := none') (fun i hi e => by cases e; omega))
        have P14 : Hid (Pp F w14 p 6 [y2]) := Lib.hid Q14
        clear Y13 P13 FA13 f14 Q14
        go_wp2_with fail
        refine (pfrom_any p 6 6 _ _ P14.out (by omega) (by omega)).mono ?_
        rintro e w15 (⟨-, v15, zs, rfl, hz, ho, f15⟩ | ⟨h, -⟩)
        · have Y15 := Lib.hid (f15.blk Y14.out id)
          have FA15 := Lib.hid (FA14.out.trans f15 (fun _ _ h => h))
          have P15 := Lib.hid (P14.out.keep0 f15)
          have hoh := Lib.hid ho
          have hzh : Hid (zs.map EV.e = [askE 2]) := Lib.hid (by rw [hz, ← e2h.out]; rfl)
          clear Y14 P14 FA14 f15 ho hz
          have cY := (cells7 Y15.out).1
          obtain ⟨z1, rfl, hz1⟩ := one_of hzh.out
          obtain ⟨za, zc, rfl⟩ := hoh.out.ents.cells
          go_wp2_with fail
          refine (lsamerow_any _ _ [z1] ([askE 2].map evOf) _ (hoh.out.ents.keep0 ((Fr.refl _ _).alloc _)) (lit_ents (t := 34) [askE 2] (by simp [askE_lines]) (blk_alloc_new rfl)) (by simp) (by decide) (by simp [hz1, askE_lines]) (by simp [evOf, askE_lines])).mono ?_
          rintro e w16 ⟨rfl, g16⟩
          rw [decide_eq_true (by rw [evOf_e]; exact hzh.out)]
          have f16 := ((Fr.refl none' w15).alloc _).trans g16 (fun _ _ h => h)
          have FA16 := Lib.hid (FA15.out.trans f16 (fun _ _ h => h))
          have P16 := Lib.hid (P15.out.keep0 f16)
          clear Y15 P15 FA15 f16 g16 cY
          go_wp2_with fail
          refine (pbase_any p 6 _ _ P16.out).mono ?_
          rintro e w' ⟨rfl, rfl⟩
          go_wp2_with fail
          refine (pcut_any p 6 5 _ _ P16.out (by omega) (by omega)).mono ?_
          rintro e w17 (⟨h, -⟩ | ⟨-, rfl, -, f17⟩)
          · omega
          have FA17 := Lib.hid (FA16.out.trans f17 (S := none') (fun i hi e => by cases e; omega))
          clear P16 FA16 f17
          go_wp2_with fail
          go_ret
          exact ⟨rfl, FA17.out⟩
        · simp at h
      · simp at h
    · simp at h
  · simp at h

end Go.Proofs.YtmhicplhfbnpaaaDoor
