/-
  PipeKeeps: the walk.
-/
import Derived.Test.YtmhicplhfbnpaaaDoorPipeK
import Derived.Deep.CutBlock
namespace Go.Proofs.YtmhicplhfbnpaaaDoor
set_option linter.unusedVariables false
set_option linter.unusedSimpArgs false
open Go.RowKit

theorem run_cutl (a : Option Addr) (n c m : Nat) (hm : m ≤ n) (hc : n ≤ c) (w : World) : (Instr.slice 35 (.slice a n c) (some (.int .i64 (m : Int))) none none).run Tryd.prog w = .ok (.slice (if c = m then a else a.map (·.add (m * 7))) (n - m) (c - m)) w := by
  rw [run_slice_l w 35 a n c undEnt .i64 m (by omega) (by omega), sizeEnt]
  simp [Result.andThen, sliced]

set_option maxRecDepth 100000 in
set_option maxHeartbeats 16000000 in
theorem keeps_walk (n0 : Int) (a : Option Addr) (len cap : Nat) (f : Nat → Int) (W : World) (h : IntsAt W a len f) (hlen : len ≤ 9223372036854775807) (hb0 : -9223372036854775808 ≤ n0 ∧ n0 ≤ 9223372036854775807) (hk : KindsAt W) :
    Calls Tryd.prog 5 #[.int .i64 n0, .slice a len cap] W fun e w' => e = .returned (.bool true) ∧ Below W.heap.size W w' := by
  obtain ⟨i0, hi, hz0, hz1, hz2⟩ := info_parts Tryd.infoEnt
  have H := Lib.hid h
  have hkh := Lib.hid hk
  clear h hk
  go_enter Tryd.func5, Tryd.ntmps5
  go_wp2_with fail
  refine (pworks_any _ hkh.out).mono ?_
  rintro e w1 ⟨rfl, f1⟩
  have F1 := Lib.hid f1
  clear f1
  go_wp2_with fail
  refine (bring_ex _ _ _ (by omega) (by omega)).mono ?_
  rintro e w' ⟨base, rfl, b0, b1, -, rfl⟩
  go_wp2_with fail
  refine (filled_any base _ [] _ (EntsAt.nil (fun _ => True) _) (by simp) (by simp) (hkh.out.keep0 F1.out) (by omega)).mono ?_
  rintro e w2 ⟨F, p, ys, rfl, hp, hF, hP, hy, f2⟩
  obtain rfl : ys = [] := by cases ys with
    | nil => rfl
    | cons y ys => simp at hy
  have K0 : Hid (KI W p base (.slice none 0 0) [] w2) := Lib.hid ⟨⟨F, [], hP, rfl, fun i hi => ⟨by have := (hF i hi).1; have := F1.out.size; omega, (hF i hi).2⟩, fun _ h => by cases h⟩, Ow.none _ _, (fun _ h => by cases h), by have := F1.out.size; omega, F1.out.trans f2 (fun _ _ h => h)⟩
  clear hF hP hy f2 F1 hp
  go_wp2_with fail
  clear hb0
  go_loopw [0, 6, 7] (fun bv ov i wr => ∃ (k : Nat) (es : List Ent) (b : Int), i = .int .i64 k ∧ bv = .int .i64 b ∧ k ≤ len ∧ k ≤ 60 ∧ 0 ≤ b ∧ b ≤ 1099511627776 + 24 * k ∧ KI W p b ov es wr) (fun _ _ i _ => len - (intOf i).toNat)
  case atStart => exact ⟨0, [], base, rfl, rfl, by omega, by omega, b0, by omega, K0.out⟩
  case round =>
    obtain ⟨k, es, b, rfl, rfl, hk, hk6, hb, hb', K⟩ := hrel
    clear K0 b0 b1
    have Kh := Lib.hid K
    obtain ⟨oa, oc, rfl, hoc⟩ := K.ow.cells
    have he24 := K.few
    clear K
    by_cases hlt : k < len ∧ k < 60
    · obtain ⟨hl1, hl2⟩ := hlt
      obtain ⟨q, off, rfl, hq, hc, hbd⟩ := (H.out.keep0 Kh.out.fr) k hl1
      have c0 := hc k hl1
      clear hc hbd
      go_wp2_with fail
      refine (bring_ex _ _ _ (by omega) (by omega)).mono ?_
      rintro e w' ⟨n, rfl, m0, m1, -, rfl⟩
      clear c0
      obtain ⟨m, hm⟩ : ∃ m : Nat, n / 8 % ((es.length : Int) + 1) = m := ⟨(n / 8 % ((es.length : Int) + 1)).toNat, (Int.toNat_of_nonneg (Int.emod_nonneg _ (by omega))).symm⟩
      have hml : m ≤ es.length := by have := Int.emod_lt_of_pos (n / 8) (show 0 < (es.length : Int) + 1 by omega); omega
      have hkw := hkh.out.keep0 Kh.out.fr
      have hkwh := Lib.hid hkw
      clear hkw hi hz0 hz1 hz2
      go_upto_block 2 with fail
      rw [hm]
      clear hm
      go_cut [0, 6] (fun bv ov w' => ∃ (b2 : Int) (es2 : List Ent), bv = .int .i64 b2 ∧ 0 ≤ b2 ∧ b2 ≤ 1099511627776 + 24 * ((k : Int) + 1) ∧ KI W p b2 ov es2 w')
      case first =>
        rcases (show n % 8 < 5 ∨ (¬ n % 8 < 5 ∧ n % 8 < 7) ∨ (¬ n % 8 < 5 ∧ ¬ n % 8 < 7) by omega) with h5 | ⟨h5, h7⟩ | ⟨h5, h7⟩
        · skip
          obtain ⟨i0, hi, hz0, hz1, hz2⟩ := info_parts Tryd.infoEnt
          go_wp2_with fail
          refine (asks_any n _).mono ?_
          rintro e w3 ⟨rfl, f3⟩
          have fa : Fr none' w3 (w3.alloc (.cells #[.int .i64 (askE n).client, .int .i64 (askE n).num, .int .i64 (askE n).kind, .string (askE n).sku, .int .i64 (askE n).order, .int .i64 (askE n).n, .slice none 0 0] 34)) := (Fr.refl _ _).alloc _
          have q3 : (w3.alloc (.cells #[.int .i64 (askE n).client, .int .i64 (askE n).num, .int .i64 (askE n).kind, .string (askE n).sku, .int .i64 (askE n).order, .int .i64 (askE n).n, .slice none 0 0] 34)).heap[w3.heap.size]? = some (.cells #[.int .i64 (askE n).client, .int .i64 (askE n).num, .int .i64 (askE n).kind, .string (askE n).sku, .int .i64 (askE n).order, .int .i64 (askE n).n, .slice none 0 0] 34 (0, 0)) := blk_alloc_new rfl
          have K3 := Kh.out.keep0 (f3.trans fa (fun _ _ h => h))
          have k3 := hkwh.out.keep0 (f3.trans fa (fun _ _ h => h))
          have hsz := f3.size
          obtain ⟨F, xs, hP0, hx, hF0, hno⟩ := Kh.out.pp
          have hP := Lib.hid (hP0.keep0 (f3.trans fa (fun _ _ h => h)))
          have hF := Lib.hid (show ∀ i, F i → W.heap.size ≤ i ∧ i < w3.heap.size from fun i hi => ⟨(hF0 i hi).1, by have := (hF0 i hi).2; omega⟩)
          have hel : es.length = xs.length := by rw [← hx, List.length_map]
          have hpl : p < w3.heap.size := by have := hP0.lt; omega
          have hxh := Lib.hid hx
          have hnoh := Lib.hid hno
          have helh := Lib.hid hel
          clear hP0 hx hF0 hno hel
          have K3h := Lib.hid K3
          have k3h := Lib.hid k3
          have q3h := Lib.hid q3
          have fah := Lib.hid fa
          clear f3 fa K3 k3 q3
          go_wp2_with fail
          refine (pappend_any p b xs (askE n) (.slice none 0 0) _ hP.out (LinesAt.nil (fun _ => True) _) (askE_wf n) k3h.out (by omega) (fun b hb => by have := (hF.out b hb).2; rw [World.size_alloc]; omega)).mono ?_
          rintro e w4 (⟨h, -⟩ | ⟨-, h24, rfl, f4⟩ | ⟨-, h24, F', y, hy, rfl, hF', hP', hR⟩)
          · rw [askE_ok] at h; cases h
          · have K4 := Lib.hid (K3h.out.keep0 f4)
            have hge : ¬ ((es.length : Int) < 24) := by rw [helh.out]; omega
            have q4 := f4.blk q3h.out id
            clear f4 h24
            go_wp2_with fail
            go_meet
            exact ⟨b, es, rfl, by omega, by omega, K4.out⟩
          · have hlt24 : (es.length : Int) < 24 := by rw [helh.out]; omega
            have q4 := hR.blk q3h.out (fun e => by
              rcases e with e | e
              · omega
              · have := (hF.out _ e).2; omega)
            have cq := (cells7 q4).1
            have hyx := ent_new w4 ⟨askE n, .slice none 0 0⟩ _ rfl
            have O4 := K3h.out.ow.keep hR (fun g hg e => by
              rcases e with e | e
              · exact K3h.out.np g hg e
              · exact hnoh.out g hg e)
            have rowh := Lib.hid (O4.keep0 ((Fr.refl none' w4).alloc (.cells #[.int .i64 (askE n).client, .int .i64 (askE n).num, .int .i64 (askE n).kind, .string (askE n).sku, .int .i64 (askE n).order, .int .i64 (askE n).n, .slice none 0 0] 34))).own
            have hs4 : W.heap.size ≤ w4.heap.size := Nat.le_trans K3h.out.fr.size hR.size
            have hyxh := Lib.hid hyx
            have hyh := Lib.hid hy
            have hF'h := Lib.hid hF'
            have hP'h := Lib.hid hP'
            have hRh := Lib.hid hR
            rw [← helh.out]
            clear q4 hyx O4 hy hF' hP' hR h24
            go_wp2_with (at_builtin; refine wpList_app_own2 rfl (.tmp 78) (.tmp 80) 35 rfl W.heap.size 34 i0 _ 7 80 Tryd.underlying35 hi hz0 hz1 hz2 rfl (by decide) _ es.length _ rfl rowh.out _ 1 _ rfl hyxh.out (EV.one _ ⟨_, _, _, rfl⟩) (by omega) (by omega) (by simp; omega) ?_; intro v5 w5 ho5 hg5 hb5; obtain ⟨va, vc, rfl, -⟩ := row_cells ho5; have K5 := Lib.hid (K3h.out.append hxh.out (fun i hi => ⟨(hF.out i hi).1, by have := (hF.out i hi).2; rw [World.size_alloc]; omega⟩) hnoh.out hyh.out rfl hF'h.out hP'h.out hRh.out _ ho5 hg5 hb5); clear ho5 hg5 hb5)
            go_meet
            exact ⟨b, es ++ [askE n], rfl, by omega, by omega, K5.out⟩
        · as_aux_lemma =>
          have hwm : IntKind.i64.wrap (b + (m : Int)) = b + (m : Int) := by rw [IntKind.wrap_i64]; omega
          obtain ⟨F, xs, hP0, hx, hF, hno⟩ := Kh.out.pp
          have helh := Lib.hid (show es.length = xs.length by rw [← hx, List.length_map])
          have hP := Lib.hid hP0
          have hxh := Lib.hid hx
          have hFh := Lib.hid hF
          have hnoh := Lib.hid hno
          clear hP0 hx hF hno
          go_wp2_with fail
          refine (pcut_any p b (b + (m : Int)) _ _ hP.out (by omega) (by omega)).mono ?_
          rintro e w3 (⟨-, rfl, Q3, f3⟩ | ⟨h, -⟩)
          · rw [show (b + (m : Int) - b).toNat = m by omega] at Q3
            have K3 := Lib.hid (Kh.out.turn hFh.out hnoh.out Q3 (by rw [List.map_take, hxh.out]) f3 ((Kh.out.ow.keep f3 (fun g hg e => Kh.out.np g hg e)).take m hml) (fun g hg => by cases oa <;> exact hg))
            have hmc : m ≤ oc := by omega
            clear Q3 f3 hwm
            go_wp2_with fail
            go_meet
            exact ⟨b, es.take m, rfl, by omega, by omega, K3.out⟩
          · rw [← helh.out] at h; omega
        · skip
          obtain ⟨i0, hi, hz0, hz1, hz2⟩ := info_parts Tryd.infoEnt
          have hwm : IntKind.i64.wrap (b + (m : Int)) = b + (m : Int) := by rw [IntKind.wrap_i64]; omega
          obtain ⟨F, xs, hP0, hx, hF, hno⟩ := Kh.out.pp
          have helh := Lib.hid (show es.length = xs.length by rw [← hx, List.length_map])
          have hP := Lib.hid hP0
          have hxh := Lib.hid hx
          have hFh := Lib.hid hF
          have hnoh := Lib.hid hno
          clear hP0 hx hF hno
          go_wp2_with fail
          refine (ptrim_any p b (b + (m : Int)) _ _ hP.out (by omega) (by omega)).mono ?_
          rintro e w3 (⟨-, rfl, Q3, f3⟩ | ⟨h, -⟩)
          · rw [show (b + (m : Int) - b).toNat = m by omega] at Q3
            have O3 := Kh.out.ow.keep f3 (fun g hg e => Kh.out.np g hg e)
            have hcut := run_cutl oa es.length oc m hml hoc
            obtain ⟨a', ha'⟩ : ∃ a', a' = (if oc = m then oa else oa.map (·.add (m * 7))) := ⟨_, rfl⟩
            simp only [← ha'] at hcut
            have hs0 := Lib.hid ((O3.dropSl m hml a' (oc - m) (by omega) (fun h => by
              obtain ⟨ao, cp, e, _, _, h3, _⟩ := Sl.of_own O3.own
              injection e with e1 e2 e3
              subst e1; subst e3
              rw [h] at ha'
              split at ha'
              · omega
              · have : oa = none := by cases oa with
                  | none => rfl
                  | some v => simp at ha'
                rw [h3 this]; omega) (fun h => by rw [ha', if_neg (by omega)])).keep0 ((Fr.refl none' w3).alloc (.cells #[] 34)))
            have hW3 : W.heap.size ≤ w3.heap.size := Nat.le_trans Kh.out.fr.size f3.size
            have row0 := Lib.hid (show (w3.alloc (.cells #[] 34)).ownsRow W.heap.size 34 7 (.slice (some ⟨w3.heap.size, 0, none⟩) 0 0) 0 [] from ⟨rfl, .inr ⟨w3.heap.size, 0, #[], rfl, hW3, blk_alloc_new rfl, by omega, by decide, rfl, rfl⟩⟩)
            have Q3h := Lib.hid Q3
            have f3h := Lib.hid f3
            have hone : ∀ u ∈ entc ((es.drop m).map evOf), u.oneCell' = true := fun u hu => O3.ents.one u (by rw [entc_evOf_drop] at hu; exact List.mem_of_mem_drop hu)
            have honeh := Lib.hid hone
            clear Q3 f3 O3 ha' hone
            go_wp2_with (at_builtin; refine wpList_app_own2 rfl (.tmp 50) (.tmp 53) 35 rfl W.heap.size 34 i0 _ 7 80 Tryd.underlying35 hi hz0 hz1 hz2 rfl (by decide) _ 0 _ rfl row0.out _ (es.length - m) _ rfl hs0.out honeh.out (by omega) (by omega) (by simp; omega) ?_; intro v5 w5 ho5 hg5 hb5)
            go_meet
            have hR : Fr none' w3 w5 := ((Fr.refl none' w3).alloc (.cells #[] 34)).grown hg5 (fun k hk => .inl (by injection hk with hk; rw [← hk]; exact Nat.le_refl _))
            have hge : ∀ g, v5.ownBlock = some g → w3.heap.size ≤ g := fun g hg => by
              rcases hb5 with h5 | h5
              · rw [h5] at hg
                injection hg with hg
                rw [← hg]; exact Nat.le_refl _
              · rw [h5] at hg
                injection hg with hg
                rw [World.size_alloc] at hg
                omega
            have hs3 := f3h.out.size
            have hpl := Q3h.out.lt
            refine ⟨b + (m : Int), es.drop m, rfl, by omega, by omega, ⟨⟨F, xs.drop m, Q3h.out.keep0 hR, by rw [List.map_drop, hxh.out], fun i hi => ⟨(hFh.out i hi).1, by have := (hFh.out i hi).2; have := hR.size; omega⟩, fun g hg h => by have := hge g hg; have := (hFh.out g h).2; omega⟩, ⟨?_, fun e he => Kh.out.ow.nil e (List.mem_of_mem_drop he)⟩, fun g hg => by have := hge g hg; omega, Kh.out.pw, ?_⟩⟩
            · rw [List.length_drop]
              rw [Nat.zero_add, List.nil_append] at ho5
              exact ho5
            · exact (Kh.out.fr.trans f3h.out (fun i hi e => by cases e; have := Kh.out.pw; omega)).trans hR (fun _ _ h => h)
          · rw [← helh.out] at h; omega
      case rest =>
        obtain ⟨x2, rfl⟩ : ∃ x2, x2 = wc := ⟨_, rfl⟩
        obtain ⟨b2, es2, rfl, hb2, hb2', K2⟩ := hcut
        obtain ⟨oa2, oc2, rfl, hoc2⟩ := K2.ow.cells
        have he2 := K2.few
        obtain ⟨F, xs, hP0, hx, hF, hno⟩ := K2.pp
        have helh := Lib.hid (show es2.length = xs.length by rw [← hx, List.length_map])
        have hP := Lib.hid hP0
        have hxh := Lib.hid hx
        have K2h := Lib.hid K2
        clear hP0 hx hF hno K2 Kh hkwh
        go_wp2_with fail
        refine (pfrom_any p b2 b2 _ _ hP.out (by omega) (by omega)).mono ?_
        rintro e w3 (⟨-, v3, us, rfl, hu, hou, f3⟩ | ⟨h, -⟩)
        · rw [show (b2 - b2).toNat = 0 by omega, List.drop_zero, hxh.out] at hu
          obtain ⟨ua, uc, rfl⟩ := hou.ents.cells
          have hul : us.length ≤ 24 := by have := congrArg List.length hu; rw [List.length_map] at this; omega
          have huw : Hid (∀ y ∈ us, y.e.lines.length ≤ 5864062014634) := Lib.hid (fun y hy => by
            have : y.e ∈ es2 := by rw [← hu]; exact List.mem_map_of_mem hy
            rw [K2h.out.ow.nil _ this]
            decide)
          have hew : Hid (∀ y ∈ es2.map evOf, y.e.lines.length ≤ 5864062014634) := Lib.hid (fun y hy => by
            obtain ⟨z, hz, rfl⟩ := List.mem_map.1 hy
            show z.lines.length ≤ _
            rw [K2h.out.ow.nil _ hz]
            decide)
          have hel2 : Hid ((es2.map evOf).length ≤ 1000000000) := Lib.hid (by rw [List.length_map]; omega)
          have huh := Lib.hid hu
          have Ou := Lib.hid hou
          have K3 := Lib.hid (K2h.out.keep0 f3)
          have P3 := Lib.hid (hP.out.keep0 f3)
          clear hu hou f3 K2h hP
          go_wp2_with fail
          refine (lsamerow_any _ _ us (es2.map evOf) _ Ou.out.ents K3.out.ow.ents (by omega) hel2.out huw.out hew.out).mono ?_
          rintro e w4 ⟨rfl, f4⟩
          rw [decide_eq_true (by rw [evOf_e]; exact huh.out)]
          have K4 := Lib.hid (K3.out.keep0 f4)
          have P4 := Lib.hid (P3.out.keep0 f4)
          clear f4 K3 P3 Ou
          go_wp2_with fail
          refine (pbase_any p b2 _ _ P4.out).mono ?_
          rintro e w' ⟨rfl, rfl⟩
          go_wp2_with fail
          refine (ptop_any p b2 _ _ P4.out (by omega)).mono ?_
          rintro e w5 ⟨rfl, n5, h5⟩
          have K5 : Hid (KI W p b2 (.slice oa2 es2.length oc2) es2 w5) := Lib.hid (by rw [h5]; exact K4.out.keep0 ((Fr.refl _ _).drewN _))
          rw [← helh.out]
          clear h5 K4 P4
          go_wp2_with fail
          go_roundw
          case rel => exact ⟨k + 1, es2, b2, by go_num, rfl, by omega, by omega, by omega, by omega, K5.out⟩
          case measure => simp [intOf]; omega
        · omega
    · have br := Kh.out.fr
      rcases (show ¬ k < len ∨ (k < len ∧ ¬ k < 60) by omega) with h0 | ⟨h0, h1⟩
      · clear hlt
        go_wp2_with fail
        go_ret
        exact ⟨rfl, br.below (Nat.le_refl _) (fun _ h => h.elim)⟩
      · clear hlt
        go_wp2_with fail
        go_ret
        exact ⟨rfl, br.below (Nat.le_refl _) (fun _ h => h.elim)⟩

end Go.Proofs.YtmhicplhfbnpaaaDoor
