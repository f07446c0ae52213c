/-
  PipeNames: the walk.
-/
import Derived.Test.YtmhicplhfbnpaaaDoorPipeO
import Derived.Test.YtmhicplhfbnpaaaDoorPipeN
namespace Go.Proofs.YtmhicplhfbnpaaaDoor
set_option linter.unusedVariables false
set_option linter.unusedSimpArgs false
open Go.RowKit

theorem Tryd.infoInt : (Tryd.prog.info? 3).map (fun i => (i.zero, i.size, i.bytes)) = some (some (.int .i64 0), 1, 8) := by kernel_rfl
theorem make24 (w : World) : ∃ MC : Array Value, (Instr.makeSlice 51 (.int .i64 24) (.int .i64 24)).run Tryd.prog w = .ok (.slice (some ⟨w.heap.size, 0, none⟩) 24 24) (w.alloc (.cells MC 3)) ∧ IntsAt (w.alloc (.cells MC 3)) (some ⟨w.heap.size, 0, none⟩) 24 (fun _ => 0) := by
  obtain ⟨i0, hi, hz0, hz1, hz2⟩ := info_parts Tryd.infoInt
  refine ⟨madeCells #[.int .i64 0] 24, ?_, fun k hk => ⟨_, 0, rfl, by simp, fun j hj => cell_of_blk (o := 0 + j) (blk_alloc_new rfl) ?_, fun _ _ => by show (-9223372036854775808 : Int) ≤ 0 ∧ (0 : Int) ≤ 9223372036854775807; omega⟩⟩
  · have h := run_make (P := Tryd.prog) w 51 3 i0 (.int .i64 0) Tryd.underlying51 hi hz0 .i64 .i64 24 24 (by omega) (by omega) (by rw [hz2]; omega) (by omega)
    simpa [hz1, Value.cells] using h
  · rw [← Array.getElem?_toList, toList_madeCells_one, Nat.zero_add, List.getElem?_replicate, if_pos hj]

def noEnt : Ent := ⟨0, 0, 0, ⟨#[]⟩, 0, 0, []⟩
theorem noEnt_no : okEnt noEnt = false := by unfold okEnt noEnt; simp
theorem noEnt_wf : noEnt.wf := ⟨by unfold I64 noEnt; simp, by unfold I64 noEnt; simp, by unfold I64 noEnt; simp, by unfold I64 noEnt; simp, by unfold I64 noEnt; simp, by decide, (fun l h => by cases h), by decide⟩

theorem agree_5 {r : Int} (h : AgreeR [] [] 24 (-5) r) : r = 0 := by
  unfold AgreeR at h
  rw [if_neg (by omega)] at h
  rw [show max (-5 : Int) 0 = 0 from by decide] at h
  exact h.one (.inr ⟨(by simp <;> omega), fun j hj => by simp at hj; omega⟩)
theorem agree_6 {r : Int} (h : AgreeR [] [] 24 4611686018427387904 r) : r = 24 := by
  unfold AgreeR at h
  rw [if_pos (by omega)] at h
  simpa using h

set_option maxRecDepth 100000 in
set_option maxHeartbeats 16000000 in
theorem names_walk (W : World) (hk : KindsAt W) :
    Calls Tryd.prog 8 #[] W fun e w' => e = .returned (.bool true) ∧ Below W.heap.size W w' := by
  have hkh := Lib.hid hk
  clear hk
  go_enter Tryd.func8, Tryd.ntmps8
  go_wp2_with fail
  refine (pnew_no (-1) _ (by omega)).mono ?_
  rintro e w' ⟨rfl, rfl⟩
  go_wp2_with fail
  refine (pnew_no 9007199254740992 _ (by omega)).mono ?_
  rintro e w' ⟨rfl, rfl⟩
  go_wp2_with fail
  refine (pnew_ok 9007199254740991 _ (by omega)).mono ?_
  rintro e w1 ⟨rfl, P1, f1⟩
  have P1h := Lib.hid P1
  have F1 := Lib.hid f1
  clear P1 f1
  go_wp2_with fail
  refine (ptop_any _ _ _ _ P1h.out (by omega)).mono ?_
  rintro e w2 ⟨rfl, n2, h2⟩
  have F2 : Hid (Fr none' W w2) := Lib.hid (by rw [h2]; exact F1.out.drewN _)
  clear h2 F1 P1h
  go_wp2_with fail
  obtain ⟨MC, hmk, hints⟩ := make24 w2
  have hI := Lib.hid hints
  have F3 := Lib.hid (F2.out.alloc (.cells MC 3))
  clear hints
  go_wp2_with fail
  rw [hmk]
  clear hmk
  go_wp2_with fail
  refine (lrow_any (some ⟨w2.heap.size, 0, none⟩) 24 24 (fun _ => 0) 24 _ hI.out (by omega) (by omega)).mono ?_
  rintro e w4 ⟨v, ys, rfl, hy, ho, f4⟩
  obtain ⟨hyl, hyw⟩ := askRow_mem hy
  have hyl' : ys.length = 24 := hyl
  obtain ⟨ya, yc, rfl⟩ := ho.ents.cells
  have hylh := Lib.hid hyl'
  have hywh := Lib.hid hyw
  have hoh := Lib.hid ho
  have F4 := Lib.hid (F3.out.trans f4 (fun _ _ h => h))
  clear hyl hyw hy hyl' ho f4 F3 F2 hI
  go_wp2_with fail
  refine (filled_any 0 _ ys _ hoh.out.ents (by have := hylh.out; omega) (fun y hy => ⟨(hywh.out y hy).1, (hywh.out y hy).2.1⟩) (hkh.out.keep0 F4.out) (by omega)).mono ?_
  rintro e w5 ⟨F, p, zs, rfl, hp, hF, hP, hz, f5⟩
  have hzl := Lib.hid (show zs.length = 24 by have := congrArg List.length hz; rw [List.length_map, List.length_map, hylh.out] at this; exact this)
  have hFh := Lib.hid (fun i hi => (hF i hi).2)
  have F5 := Lib.hid (F4.out.trans f5 (fun _ _ h => h))
  have P5 := Lib.hid hP
  have hpW : W.heap.size ≤ p := by have := F4.out.size; omega
  clear hp hF hP hz f5 F4 hoh hywh hylh
  go_wp2_with fail
  refine (asks_any 1 _).mono ?_
  rintro e w6 ⟨rfl, f6⟩
  have P6 := Lib.hid (P5.out.keep0 f6)
  have F6 := Lib.hid (F5.out.trans f6 (fun _ _ h => h))
  have hF6 : Hid (∀ b, F b → b < w6.heap.size) := Lib.hid (fun b hb => Nat.lt_of_lt_of_le (hFh.out b hb) f6.size)
  clear f6 P5 F5 hFh
  go_wp2_with fail
  refine (pappend_any p 0 zs (askE 1) (.slice none 0 0) _ P6.out (LinesAt.nil (fun _ => True) _) (askE_wf 1) (hkh.out.keep0 F6.out) (by omega) hF6.out).mono ?_
  rintro e w7 (⟨h, -⟩ | ⟨-, -, rfl, f7⟩ | ⟨-, h, -⟩)
  · rw [askE_ok] at h; cases h
  · have P7 := Lib.hid (P6.out.keep0 f7)
    have F7 := Lib.hid (F6.out.trans f7 (fun _ _ h => h))
    have hF7 : Hid (∀ b, F b → b < w7.heap.size) := Lib.hid (fun b hb => Nat.lt_of_lt_of_le (hF6.out b hb) f7.size)
    clear f7 P6 F6 hF6
    go_wp2_with fail
    refine (pappend_any p 0 zs noEnt (.slice none 0 0) _ P7.out (LinesAt.nil (fun _ => True) _) noEnt_wf (hkh.out.keep0 F7.out) (by omega) hF7.out).mono ?_
    rintro e w8 (⟨-, rfl, f8⟩ | ⟨h, -⟩ | ⟨h, -⟩)
    · have P8 := Lib.hid (P7.out.keep0 f8)
      have F8 := Lib.hid (F7.out.trans f8 (fun _ _ h => h))
      clear f8 P7 F7 hF7
      go_wp2_with fail
      refine (pget_any p 0 25 _ _ P8.out (by omega) (by omega)).mono ?_
      rintro e w9 (⟨hi9, -, -⟩ | ⟨-, rfl, f9⟩)
      · rw [hzl.out] at hi9; omega
      · have P9 := Lib.hid (P8.out.keep0 f9)
        have F9 := Lib.hid (F8.out.trans f9 (fun _ _ h => h))
        clear f9 P8 F8
        go_wp2_with fail
        refine (pget_any p 0 0 _ _ (P9.out.keep0 ((Fr.refl _ _).alloc _)) (by omega) (by omega)).mono ?_
        rintro e w10 (⟨hi10, h, -⟩ | ⟨-, rfl, g10⟩)
        · omega
        · have f10 := ((Fr.refl none' w9).alloc _).trans g10 (fun _ _ h => h)
          have P10 := Lib.hid (P9.out.keep0 f10)
          have F10 := Lib.hid (F9.out.trans f10 (fun _ _ h => h))
          clear g10 f10 P9 F9
          go_wp2_with fail
          refine (pfrom_any p 0 (-1) _ _ (P10.out.keep0 ((Fr.refl _ _).alloc _)) (by omega) (by omega)).mono ?_
          rintro e w11 (⟨h, -⟩ | ⟨-, rfl, g11⟩)
          · omega
          · have f11 := ((Fr.refl none' w10).alloc _).trans g11 (fun _ _ h => h)
            have P11 := Lib.hid (P10.out.keep0 f11)
            have F11 := Lib.hid (F10.out.trans f11 (fun _ _ h => h))
            clear g11 f11 P10 F10
            go_wp2_with fail
            refine (pfrom_any p 0 24 _ _ P11.out (by omega) (by omega)).mono ?_
            rintro e w12 (⟨-, v12, ts, rfl, ht, hot, f12⟩ | ⟨h, -⟩)
            · obtain rfl : ts = [] := by
                have := congrArg List.length ht
                rw [List.length_map, List.length_map, List.length_drop, hzl.out] at this
                exact List.eq_nil_of_length_eq_zero this
              obtain ⟨ta, tc, rfl⟩ := hot.ents.cells
              have P12 := Lib.hid (P11.out.keep0 f12)
              have F12 := Lib.hid (F11.out.trans f12 (fun _ _ h => h))
              clear f12 P11 F11 ht hot
              go_wp2_with fail
              refine (pcut_any p 0 25 _ _ P12.out (by omega) (by omega)).mono ?_
              rintro e w13 (⟨h, -⟩ | ⟨-, rfl, Q13, f13⟩)
              · rw [hzl.out] at h; omega
              · have P13 := Lib.hid Q13
                have F13 := Lib.hid (F12.out.trans f13 (S := none') (fun i hi e => by cases e; omega))
                clear Q13 f13 P12 F12
                go_wp2_with fail
                refine (pcut_any p 0 (-1) _ _ P13.out (by omega) (by omega)).mono ?_
                rintro e w14 (⟨h, -⟩ | ⟨-, rfl, Q14, f14⟩)
                · omega
                · have P14 := Lib.hid Q14
                  have F14 := Lib.hid (F13.out.trans f14 (S := none') (fun i hi e => by cases e; omega))
                  clear Q14 f14 P13 F13
                  go_wp2_with fail
                  refine (ptrim_any p 0 25 _ _ P14.out (by omega) (by omega)).mono ?_
                  rintro e w15 (⟨h, -⟩ | ⟨-, rfl, Q15, f15⟩)
                  · rw [hzl.out] at h; omega
                  · have P15 := Lib.hid Q15
                    have F15 := Lib.hid (F14.out.trans f15 (S := none') (fun i hi e => by cases e; omega))
                    clear Q15 f15 P14 F14
                    go_wp2_with fail
                    refine (ptrim_any p 0 24 _ _ P15.out (by omega) (by omega)).mono ?_
                    rintro e w16 (⟨-, rfl, Q16, f16⟩ | ⟨h, -⟩)
                    · have hdr : zs.drop ((24 : Int) - 0).toNat = [] := List.drop_eq_nil_of_le (by rw [hzl.out]; decide)
                      rw [hdr] at Q16
                      have P16 := Lib.hid Q16
                      have F16 := Lib.hid (F15.out.trans f16 (S := none') (fun i hi e => by cases e; omega))
                      clear Q16 f16 P15 F15 hdr
                      go_wp2_with fail
                      refine (pbase_any p 24 _ _ P16.out).mono ?_
                      rintro e w' ⟨rfl, rfl⟩
                      go_wp2_with fail
                      refine (pcut_any p 24 24 _ _ P16.out (by omega) (by omega)).mono ?_
                      rintro e w17 (⟨-, rfl, Q17, f17⟩ | ⟨h, -⟩)
                      · have P17 : Hid (Pp F w17 p 24 []) := Lib.hid Q17
                        have F17 := Lib.hid (F16.out.trans f17 (S := none') (fun i hi e => by cases e; omega))
                        clear Q17 f17 P16 F16
                        go_wp2_with fail
                        refine (pagree_any p 24 (-5) [] [] (.slice none 0 0) _ P17.out (EntsAt.nil (fun _ => True) _) (by decide) (by simp) (by omega) (by omega)).mono ?_
                        rintro e w18 ⟨r, rfl, hR, -, -, f18⟩
                        obtain rfl : r = 0 := agree_5 hR.out
                        have P18 := Lib.hid (P17.out.keep0 f18)
                        have F18 := Lib.hid (F17.out.trans f18 (fun _ _ h => h))
                        clear f18 P17 F17 hR
                        go_wp2_with fail
                        refine (pagree_any p 24 4611686018427387904 [] [] (.slice none 0 0) _ P18.out (EntsAt.nil (fun _ => True) _) (by decide) (by simp) (by omega) (by omega)).mono ?_
                        rintro e w19 ⟨r, rfl, hR, -, -, f19⟩
                        obtain rfl : r = 24 := agree_6 hR.out
                        have F19 := Lib.hid (F18.out.trans f19 (fun _ _ h => h))
                        clear f19 P18 F18 hR
                        go_wp2_with fail
                        go_loopw [21, 22] (fun nv i wr => ∃ (k : Nat) (a : Option Addr), i = .int .i64 k ∧ nv = .pointer a ∧ k ≤ 2 ∧ NoPp wr a ∧ Fr none' W wr) (fun _ i _ => 2 - (intOf i).toNat)
                        case atStart => exact ⟨0, none, rfl, rfl, by omega, .inl rfl, F19.out⟩
                        case round =>
                          obtain ⟨k, na, rfl, rfl, hk, hno, hf⟩ := hrel
                          have hN := Lib.hid hno
                          have hfh := Lib.hid hf
                          clear hno hf F19
                          by_cases hlt : k < 2
                          · go_wp2_with fail
                            refine (asks_any 1 _).mono ?_
                            rintro e x1 ⟨rfl, f1⟩
                            have N1 := Lib.hid (hN.out.keep f1)
                            have G1 := Lib.hid (hfh.out.trans f1 (fun _ _ h => h))
                            clear f1 hN hfh
                            go_wp2_with fail
                            refine (pappend_no (askE 1) (.slice none 0 0) N1.out).mono ?_
                            rintro e x2 ⟨rfl, f2⟩
                            have N2 := Lib.hid (N1.out.keep f2)
                            have G2 := Lib.hid (G1.out.trans f2 (fun _ _ h => h))
                            clear f2 N1 G1
                            go_wp2_with fail
                            refine (pget_no 1 N2.out).mono ?_
                            rintro e x3 ⟨rfl, f3⟩
                            have N3 := Lib.hid (N2.out.keep f3)
                            have G3 := Lib.hid (G2.out.trans f3 (fun _ _ h => h))
                            clear f3 N2 G2
                            go_wp2_with fail
                            refine (pfrom_no 0 (N3.out.keep ((Fr.refl _ _).alloc _))).mono ?_
                            rintro e x4 ⟨rfl, g4⟩
                            have f4 := ((Fr.refl none' x3).alloc _).trans g4 (fun _ _ h => h)
                            have c4 := cell_of_blk (o := 1) (g4.blk (blk_alloc_new (w := x3) rfl) id) rfl
                            have N4 := Lib.hid (N3.out.keep f4)
                            have G4 := Lib.hid (G3.out.trans f4 (fun _ _ h => h))
                            clear f4 g4 N3 G3
                            go_wp2_with fail
                            refine (pcut_no 0 N4.out).mono ?_
                            rintro e w' ⟨rfl, rfl⟩
                            go_wp2_with fail
                            refine (ptrim_no 0 N4.out).mono ?_
                            rintro e w' ⟨rfl, rfl⟩
                            go_wp2_with fail
                            refine (pagree_no 0 _ N4.out).mono ?_
                            rintro e w' ⟨rfl, rfl⟩
                            go_wp2_with fail
                            refine (pbase_no N4.out).mono ?_
                            rintro e w' ⟨rfl, rfl⟩
                            go_wp2_with fail
                            refine (ptop_no N4.out).mono ?_
                            rintro e w' ⟨rfl, rfl⟩
                            clear c4
                            go_wp2_with fail
                            go_roundw
                            case rel => exact ⟨k + 1, some ⟨_, 0, none⟩, by go_num, rfl, by omega, .inr ⟨_, rfl, blk_alloc_new rfl⟩, G4.out.alloc _⟩
                            case measure => simp [intOf]; omega
                          · go_wp2_with fail
                            refine (pworks_any _ (hkh.out.keep0 hfh.out)).mono ?_
                            rintro e x1 ⟨rfl, f1⟩
                            have G1 := Lib.hid (hfh.out.trans f1 (fun _ _ h => h))
                            clear f1 hfh
                            go_wp2_with fail
                            go_ret
                            exact ⟨rfl, G1.out.below (Nat.le_refl _) (fun _ h => h.elim)⟩
                      · simp at h
                    · rw [hzl.out] at h; omega
            · rw [hzl.out] at h; omega
    · rw [noEnt_no] at h; cases h
    · rw [noEnt_no] at h; cases h
  · rw [hzl.out] at h; omega

end Go.Proofs.YtmhicplhfbnpaaaDoor
