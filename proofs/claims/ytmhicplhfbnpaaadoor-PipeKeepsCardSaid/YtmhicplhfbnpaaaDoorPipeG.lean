/-
  gimbal/pipe: Agree.
-/
import Derived.Test.YtmhicplhfbnpaaaDoorPipeC
import Derived.Deep.RegionHeld3
import Derived.Deep.DeepCutAuto
namespace Go.Proofs.YtmhicplhfbnpaaaDoor
set_option linter.unusedVariables false
set_option linter.unusedSimpArgs false
open Go.RowKit
variable {F G : Nat → Prop}

/-- Where a log begins to differ from another one (a: where that begins). -/
def AgreeP (es ls : List Ent) (base a r : Int) : Prop :=
  (∃ k : Nat, (k : Int) < min (base + es.length) (a + min (ls.length : Int) 1000) - max base a ∧ r = max base a + k ∧ (∀ j : Nat, j < k → es[(max base a - base).toNat + j]? = ls[(max base a - a).toNat + j]?) ∧ es[(max base a - base).toNat + k]? ≠ ls[(max base a - a).toNat + k]?) ∨
  (r = min (base + es.length) (a + min (ls.length : Int) 1000) ∧ ∀ j : Nat, (j : Int) < min (base + es.length) (a + min (ls.length : Int) 1000) - max base a → es[(max base a - base).toNat + j]? = ls[(max base a - a).toNat + j]?)
theorem AgreeP.one {es ls : List Ent} {base a r r' : Int} (h : AgreeP es ls base a r) (h' : AgreeP es ls base a r') : r = r' := by
  rcases h with ⟨k, h1, h2, h3, h4⟩ | ⟨h1, h2⟩ <;> rcases h' with ⟨k', g1, g2, g3, g4⟩ | ⟨g1, g2⟩
  · rcases Nat.lt_trichotomy k k' with h | h | h
    · exact absurd (g3 k h) h4
    · rw [h2, g2, h]
    · exact absurd (h3 k' h) g4
  · exact absurd (g2 k h1) h4
  · exact absurd (h2 k' g1) g4
  · rw [h1, g1]
/-- What Agree tells. -/
def AgreeR (es ls : List Ent) (base at' r : Int) : Prop := if 9007199254740991 < max at' 0 then r = base + es.length else AgreeP es ls base (max at' 0) r

theorem val_int {k : IntKind} {a b : Int} (h : a = b) : Value.int k a = .int k b := by rw [h]

/-- The numbers that Agree reckons with. -/
structure Ends (base a bg en : Int) (n m : Nat) : Prop where
  b1 : base ≤ bg
  b2 : a ≤ bg
  e1 : en ≤ base + n
  e2 : en ≤ a + m
  e3 : en ≤ a + 1000
  lo : 0 ≤ bg ∧ bg ≤ 2305843009213693952
  hi : -2305843009213693952 ≤ en ∧ en ≤ 2305843009213693952

set_option maxRecDepth 100000 in
set_option maxHeartbeats 8000000 in
theorem pagree_any (p : Nat) (base at' : Int) (xs zs : List EV) (v : Value) (w : World) (h : Pp F w p base xs) (hz : EntsAt G w v zs) (hzl : zs.length ≤ 1000000000) (hL : ∀ x ∈ zs, x.e.lines.length ≤ 5864062014634) (hb : 0 ≤ base ∧ base ≤ 1152921504606846976) (ha : -9223372036854775808 ≤ at' ∧ at' ≤ 9223372036854775807) :
    Calls Tryd.prog 20 #[.pointer (some ⟨p, 0, none⟩), .int .i64 at', v] w fun e w' => ∃ r, e = .returned (.int .i64 r) ∧ Hid (AgreeR (xs.map EV.e) (zs.map EV.e) base at' r) ∧ 0 ≤ r ∧ r ≤ 2305843009213693952 ∧ Fr none' w w' := by
  have H := Lib.hid h
  have hfew := h.few
  obtain ⟨za, zc, rfl⟩ := hz.cells
  obtain ⟨lv, hrow, hpe⟩ := h.row
  obtain ⟨xa0, c, rfl, hcc⟩ := hpe.cells
  have Hz := Lib.hid hz
  have hLh := Lib.hid hL
  have rowh := Lib.hid hrow
  have peh := Lib.hid hpe
  have c0 : w.cell? ⟨p, 0, none⟩ = some (.int .i64 base) := cell_of_blk (o := 0) hrow rfl
  obtain ⟨a, haa⟩ : ∃ a, a = max at' 0 := ⟨_, rfl⟩
  have haH := Lib.hid haa
  have hal : 0 ≤ a ∧ a ≤ 9223372036854775807 := by omega
  clear h hz hrow hpe hL
  go_enter Tryd.func20, Tryd.ntmps20
  go_wp2_with fail
  refine (pnone_any _ _ _ _ H.out).mono ?_
  rintro e w' ⟨rfl, rfl⟩
  go_upto_region 3 with fail
  go_cut [1] (fun s1 w' => s1 = .int .i64 a ∧ w = w')
  case first =>
    rcases (show (0 ≤ at' ∧ a = at') ∨ (at' < 0 ∧ a = 0) by omega) with ⟨h1, h2⟩ | ⟨h1, h2⟩
    · clear haa
      subst h2
      go_wp2_with fail
      go_meet
      exact ⟨rfl, rfl⟩
    · clear haa
      subst h2
      go_wp2_with fail
      go_meet
      exact ⟨rfl, rfl⟩
  case rest =>
    obtain ⟨rfl, rfl⟩ := hcut
    clear haa
    by_cases hbig : 9007199254740991 < a
    · have hres : Hid (∀ r, r = base + (xs.length : Int) → AgreeR (xs.map EV.e) (zs.map EV.e) base at' r) := Lib.hid (fun r hr => by unfold AgreeR; rw [if_pos (by rw [← haH.out]; exact hbig), List.length_map]; exact hr)
      go_wp2_with fail
      refine (ptop_any _ _ _ _ H.out hb).mono ?_
      rintro e w' ⟨rfl, n, rfl⟩
      go_wp2_with fail
      go_ret
      exact ⟨_, rfl, Lib.hid (hres.out _ rfl), by omega, by omega, (Fr.refl _ _).drewN n⟩
    · obtain ⟨bg, hbg⟩ : ∃ bg, bg = max base a := ⟨_, rfl⟩
      obtain ⟨en, hen⟩ : ∃ en, en = min (base + (xs.length : Int)) (a + min (zs.length : Int) 1000) := ⟨_, rfl⟩
      have E : Ends base a bg en xs.length zs.length := ⟨by omega, by omega, by omega, by omega, by omega, by omega, by omega⟩
      have hbgh := Lib.hid hbg
      have henh := Lib.hid hen
      have Eh := Lib.hid E
      have hres : Hid (∀ r, AgreeP (xs.map EV.e) (zs.map EV.e) base a r → AgreeR (xs.map EV.e) (zs.map EV.e) base at' r) := Lib.hid (fun r hr => by unfold AgreeR; rw [← haH.out, if_neg hbig]; exact hr)
      clear E
      go_upto_region 6 with fail
      go_cut [7, 8] (fun s7 s8 w' => s7 = .int .i64 bg ∧ s8 = .int .i64 en ∧ ∃ n, w' = w.drewN n)
      case first =>
        have hw1 : IntKind.i64.wrap (a + (zs.length : Int)) = a + (zs.length : Int) := by rw [IntKind.wrap_i64]; omega
        have hw2 : IntKind.i64.wrap (a + 1000) = a + 1000 := by rw [IntKind.wrap_i64]; omega
        clear hbg hen
        go_quiet ((go_at_call 29; exact Calls.quiet_of (ptop_any _ _ _ _ (H.out.keep0 ((Fr.refl _ _).drewN _)) hb)))
        go_wp2_with fail
        all_goals
          go_meet
          exact ⟨val_int (by have := hbgh.out; omega), val_int (by have := henh.out; omega), _, rfl⟩
      case rest =>
        obtain ⟨rfl, rfl, n, rfl⟩ := hcut
        obtain ⟨D, hD⟩ : ∃ D : Nat, D = (en - bg).toNat := ⟨_, rfl⟩
        have hDh := Lib.hid hD
        obtain ⟨l1, l2⟩ := Eh.out.lo
        obtain ⟨l3, l4⟩ := Eh.out.hi
        have hw3 : IntKind.i64.wrap (en - bg) = en - bg := by rw [IntKind.wrap_i64]; omega
        clear hD hbg hen
        go_upto_region 7 with fail
        go_cut [35, 36] (fun s35 s36 w' => s35 = .int .i64 (D : Int) ∧ s36 = .int .i64 0 ∧ w.drewN n = w')
        case first =>
          go_wp2_with fail
          all_goals
            go_meet
            exact ⟨val_int (by have := hDh.out; omega), rfl, rfl⟩
        case rest =>
          obtain ⟨rfl, rfl, rfl⟩ := hcut
          have f0 : Fr none' w (w.drewN n) := (Fr.refl _ _).drewN n
          have hf0 := Lib.hid f0
          clear f0 hw3 c0
          obtain ⟨w1, hw1⟩ : ∃ w1, w1 = w.drewN n := ⟨_, rfl⟩
          rw [← hw1] at hf0 ⊢
          clear hw1
          go_wp2_with fail
          go_loopw [36] (fun i wr => ∃ k : Nat, i = .int .i64 k ∧ k ≤ D ∧ (∀ j, j < k → (xs.map EV.e)[(bg - base).toNat + j]? = (zs.map EV.e)[(bg - a).toNat + j]?) ∧ Fr none' w wr) (fun i _ => D - (intOf i).toNat)
          case atStart => exact ⟨0, rfl, Nat.zero_le _, fun j hj => absurd hj (by omega), hf0.out⟩
          case round =>
            obtain ⟨k, rfl, hk, hj, hf⟩ := hrel
            have hjh := Lib.hid hj
            have hfh := Lib.hid hf
            clear hj
            by_cases hlt : k < D
            · have hE := Eh.out
              have hDD := hDh.out
              obtain ⟨m1, hm1⟩ : ∃ m1, m1 = (bg - base).toNat + k := ⟨_, rfl⟩
              obtain ⟨m2, hm2⟩ : ∃ m2, m2 = (bg - a).toNat + k := ⟨_, rfl⟩
              obtain ⟨B, hB⟩ : ∃ B, B = bg + (k : Int) := ⟨_, rfl⟩
              have hx1 : m1 < xs.length := by have := hE.b1; have := hE.e1; omega
              have hz1 : m2 < zs.length := by have := hE.b2; have := hE.e2; omega
              have hz1000 : m2 < 1000 := by have := hE.b2; have := hE.e3; omega
              have hk1000 : k < 1000 := by have := hE.b2; omega
              have hwA : IntKind.i64.wrap (bg + (k : Int)) = B := by rw [IntKind.wrap_i64]; omega
              have hwB : IntKind.i64.wrap (B - base) = (m1 : Int) := by have := hE.b1; rw [IntKind.wrap_i64]; omega
              have hwC : IntKind.i64.wrap (B - a) = (m2 : Int) := by have := hE.b2; rw [IntKind.wrap_i64]; omega
              have hBl : 0 ≤ B ∧ B ≤ 2305843009213693952 := by have := hE.e1; omega
              have hm1h := Lib.hid hm1
              have hm2h := Lib.hid hm2
              have hBh := Lib.hid hB
              have hBlh := Lib.hid hBl
              have T1 := (peh.out.keep hf (fun _ _ _ h => h)).ents
              have T2 := Hz.out.keep0 hf
              obtain ⟨b, o, rfl, hb1, -, E1⟩ := T1.elem m1 hx1
              obtain ⟨b', o', rfl, hb2, -, E2⟩ := T2.elem m2 hz1
              have lx := T1.lines _ (List.getElem_mem hx1)
              have lz := T2.lines _ (List.getElem_mem hz1)
              have nx := (H.out.wf _ (List.getElem_mem hx1)).many
              have nz := hLh.out _ (List.getElem_mem hz1)
              have e1 : (xs.map EV.e)[m1]? = some xs[m1].e := by rw [List.getElem?_map, List.getElem?_eq_getElem hx1]; rfl
              have e2 : (zs.map EV.e)[m2]? = some zs[m2].e := by rw [List.getElem?_map, List.getElem?_eq_getElem hz1]; rfl
              obtain ⟨x, hx⟩ : ∃ x, x = xs[m1] := ⟨_, rfl⟩
              obtain ⟨y, hy⟩ : ∃ y, y = zs[m2] := ⟨_, rfl⟩
              rw [← hx] at E1 lx nx e1
              rw [← hy] at E2 lz nz e2
              obtain ⟨x, xv⟩ := x
              obtain ⟨y, yv⟩ := y
              obtain ⟨xa, xc, hxv⟩ := lx.cells
              obtain ⟨ya, yc, hyv⟩ := lz.cells
              dsimp only at hxv hyv lx lz nx nz e1 e2
              subst hxv
              subst hyv
              have e1' := Lib.hid e1
              have e2' := Lib.hid e2
              have E1d := Lib.hid (E1.keep hb1 (Fr.refl none' wr).drew)
              have E2d := Lib.hid (E2.keep hb2 (Fr.refl none' wr).drew)
              have lxh := Lib.hid (lx.keep0 (Fr.refl none' wr).drew)
              have lzh := Lib.hid (lz.keep0 (Fr.refl none' wr).drew)
              have rw1 : Hid (wr.drew.heap[p]? = _) := Lib.hid ((hf.drew).blk rowh.out id)
              have hb1h := Lib.hid hb1
              have hb2h := Lib.hid hb2
              clear T1 T2 hx hy e1 e2 hf E1 E2 lx lz hE hDD hm1 hm2 hB hBl hb1 hb2
              have hlt' : (k : Int) < (D : Int) := by omega
              have hltN := Lib.hid hlt
              go_wp2_with fail
              have Q0 := And.intro (cell_of_blk (o := 0) rw1.out rfl) (cell_of_blk (o := 1) rw1.out rfl)
              have Z0 := And.intro E1d.out E2d.out
              go_region_held3 (fun w' => w'.cell? ⟨p, 0, none⟩ = some (.int .i64 base) ∧ w'.cell? ⟨p, 1, none⟩ = some (.slice (some ⟨b, o, none⟩) xs.length c) ∧ w'.cell? ⟨b, o + m1 * 7, none⟩ = some (.int .i64 x.client) ∧ w'.cell? ⟨b, o + m1 * 7 + 1, none⟩ = some (.int .i64 x.num) ∧ w'.cell? ⟨b, o + m1 * 7 + 2, none⟩ = some (.int .i64 x.kind) ∧ w'.cell? ⟨b, o + m1 * 7 + 3, none⟩ = some (.string x.sku) ∧ w'.cell? ⟨b, o + m1 * 7 + 4, none⟩ = some (.int .i64 x.order) ∧ w'.cell? ⟨b, o + m1 * 7 + 5, none⟩ = some (.int .i64 x.n) ∧ w'.cell? ⟨b, o + m1 * 7 + 6, none⟩ = some (.slice xa x.lines.length xc) ∧ w'.cell? ⟨b', o' + m2 * 7, none⟩ = some (.int .i64 y.client) ∧ w'.cell? ⟨b', o' + m2 * 7 + 1, none⟩ = some (.int .i64 y.num) ∧ w'.cell? ⟨b', o' + m2 * 7 + 2, none⟩ = some (.int .i64 y.kind) ∧ w'.cell? ⟨b', o' + m2 * 7 + 3, none⟩ = some (.string y.sku) ∧ w'.cell? ⟨b', o' + m2 * 7 + 4, none⟩ = some (.int .i64 y.order) ∧ w'.cell? ⟨b', o' + m2 * 7 + 5, none⟩ = some (.int .i64 y.n) ∧ w'.cell? ⟨b', o' + m2 * 7 + 6, none⟩ = some (.slice ya y.lines.length yc))
                (first | exact ⟨Q0.1, Q0.2, Z0.1.c0, Z0.1.c1, Z0.1.c2, Z0.1.c3, Z0.1.c4, Z0.1.c5, Z0.1.c6, Z0.2.c0, Z0.2.c1, Z0.2.c2, Z0.2.c3, Z0.2.c4, Z0.2.c5, Z0.2.c6⟩ | exact ⟨Q1.1, Q1.2, Z1.1.c0, Z1.1.c1, Z1.1.c2, Z1.1.c3, Z1.1.c4, Z1.1.c5, Z1.1.c6, Z1.2.c0, Z1.2.c1, Z1.2.c2, Z1.2.c3, Z1.2.c4, Z1.2.c5, Z1.2.c6⟩)
                (first | (go_at_call 32; refine (esame_any _ _ _ _ _ lxh.out lzh.out nx nz).mono ?_; rintro e w4 ⟨rfl, f4⟩; have Z1 := And.intro (E1d.out.keep hb1h.out f4) (E2d.out.keep hb2h.out f4); have Q1 := And.intro (cell_of_blk (o := 0) (f4.blk rw1.out id) rfl) (cell_of_blk (o := 1) (f4.blk rw1.out id) rfl)))
              have f4h := Lib.hid f4
              clear Z0 Z1 Q0 Q1 f4
              by_cases hxy : x = y
              · rw [decide_eq_true hxy]
                have hxyh := Lib.hid hxy
                clear hxy
                go_wp2_with fail
                go_roundw
                case rel => exact ⟨k + 1, by go_num, by omega, fun j hj => by
                  rcases Nat.lt_or_ge j k with h | h
                  · exact hjh.out j h
                  · obtain rfl : j = k := by omega
                    rw [← hm1h.out, ← hm2h.out, e1'.out, e2'.out, hxyh.out], (hfh.out.drew).trans f4h.out (fun _ _ h => h)⟩
                case measure => have := hltN.out; simp [intOf]; omega
              · rw [decide_eq_false hxy]
                have hxyh := Lib.hid hxy
                clear hxy
                go_wp2_with fail
                go_ret
                obtain ⟨g1, g2⟩ := hBlh.out
                refine ⟨B, rfl, Lib.hid (hres.out _ (.inl ⟨k, ?_, ?_, ?_, ?_⟩)), g1, g2, (hfh.out.drew).trans f4h.out (fun _ _ h => h)⟩
                · rw [List.length_map, List.length_map, ← hbgh.out, ← henh.out]; have := hDh.out; have := hltN.out; omega
                · rw [← hbgh.out]; exact hBh.out
                · rw [← hbgh.out]; exact hjh.out
                · rw [← hbgh.out, ← hm1h.out, ← hm2h.out, e1'.out, e2'.out]; exact fun e => hxyh.out (Option.some.inj e)
            · have hlt' : ¬ (k : Int) < (D : Int) := by omega
              have hge := Lib.hid (show k = D by omega)
              clear hlt
              go_wp2_with fail
              go_ret
              have h1 := henh.out
              refine ⟨en, rfl, Lib.hid (hres.out _ (.inr ⟨by rw [List.length_map, List.length_map]; exact h1, fun j hj => ?_⟩)), by omega, by omega, hfh.out⟩
              rw [List.length_map, List.length_map, ← hbgh.out, ← henh.out] at hj
              rw [← hbgh.out]
              exact hjh.out j (by have := hDh.out; have := hge.out; omega)

end Go.Proofs.YtmhicplhfbnpaaaDoor
