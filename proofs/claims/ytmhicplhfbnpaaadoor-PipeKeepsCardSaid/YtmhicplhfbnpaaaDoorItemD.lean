/-
  gimbal/item.Check, part three: lines.
-/
import Derived.Test.YtmhicplhfbnpaaaDoorItemC
import Derived.Maps.Own
import Derived.Maps.OwnSet
import Derived.Maps.Views
namespace Go.Proofs.YtmhicplhfbnpaaaDoor
set_option linter.unusedVariables false
set_option linter.unusedSimpArgs false
open Go.RowKit Go.WideMaps Go.Maps
variable {F : Nat → Prop}

def okLine (l : Line) : Bool := okName l.sku && okQty l.n
/-- May lines be? -/
def okLines (ls : List Line) : Bool := ls.all okLine && ((decide (1 ≤ ls.length) && decide (ls.length ≤ 4)) && decide (ls.map Line.sku).Nodup)

theorem strKeyed : Keyed Tryd.prog 9 := string_keyed Tryd.underlying9
def skuKey (s : ByteArray) : Lit := .string s.data.toList
theorem skuKey_inj {s t : ByteArray} (h : skuKey s = skuKey t) : s = t := by
  obtain ⟨⟨x⟩⟩ := s
  obtain ⟨⟨y⟩⟩ := t
  unfold skuKey at h
  injection h with h
  congr 1
  exact congrArg Array.mk h

/-- What the map knows behind k lines. -/
structure Had (D : DataW Unit) (ks : List ByteArray) : Prop where
  tidy : Tidy D
  has : ∀ s, Maps.has D (skuKey s) = true ↔ s ∈ ks
  size : Maps.size D ≤ ks.length ∧ (Maps.size D = ks.length ↔ ks.Nodup)
theorem Had.nil : Had (.map []) [] := ⟨tidy_empty, fun s => by simp [Maps.has], by simp [Maps.size]⟩
theorem Had.put {D : DataW Unit} {ks : List ByteArray} (h : Had D ks) (s : ByteArray) (d : DataW Unit) : Had (D.put (skuKey s) d) (ks ++ [s]) := by
  have hk : WideAt.IsKeyLit (skuKey s) := by trivial
  refine ⟨h.tidy.put hk d, fun t => ?_, ?_⟩
  · by_cases e : t = s
    · subst e
      rw [has_put_same h.tidy.isMap hk]; simp
    · rw [has_put_other (fun e' => e (skuKey_inj e')), h.has]
      simp [e]
  · rw [size_put h.tidy]
    obtain ⟨h1, h2⟩ := h.size
    rw [List.length_append, List.length_singleton]
    by_cases e : s ∈ ks
    · rw [if_pos ((h.has s).2 e)]
      refine ⟨by omega, ⟨fun h => by omega, fun h => ?_⟩⟩
      rw [List.nodup_append] at h
      exact absurd rfl (h.2.2 s e s (by simp))
    · rw [if_neg (fun h' => e ((h.has s).1 h'))]
      refine ⟨by omega, ⟨fun h => ?_, fun h => ?_⟩⟩
      · have := h2.1 (by omega)
        rw [List.nodup_append]
        exact ⟨this, by simp, fun a ha b hb e' => by simp at hb; subst hb; subst e'; exact e ha⟩
      · rw [List.nodup_append] at h
        have := h2.2 h.1
        omega

theorem okLine_wf {l : Line} (h : l.wf) : keyOf Tryd.prog 9 (.string l.sku) = some (skuKey l.sku) := keyOf_string_mk Tryd.underlying9 (by unfold maxLen; have := h.1; omega)
theorem Fr.grow {w w' : World} (f : Fr none' w w') : w.grownBy w' none := ⟨f.os, f.tape, f.output, f.size, fun k hk _ => f.block k hk id⟩
theorem okLines_bad {ls : List Line} {k : Nat} (h : k < ls.length) (hb : okLine ls[k] = false) : okLines ls = false := by
  unfold okLines
  have : ls.all okLine = false := by
    rw [List.all_eq_false]
    exact ⟨_, List.getElem_mem h, by rw [hb]; decide⟩
  rw [this]; rfl
theorem one_wf : (Lit.int .i64 1).wf = true := by decide

set_option maxHeartbeats 2000000 in
theorem ilines_any (v : Value) (ls : List Line) (w : World) (h : LinesAt F w v ls) (hL : ls.length ≤ 5864062014634) (hwf : ∀ l ∈ ls, l.wf) :
    Calls Tryd.prog 57 #[v] w fun e w' => e = .returned (.bool (okLines ls)) ∧ Fr none' w w' := by
  have hmm := @run_makeMap Tryd.prog
  obtain ⟨a, c, rfl⟩ := h.cells
  have H := Lib.hid h
  have hwfh := Lib.hid hwf
  clear h hwf
  go_enter Tryd.func57, Tryd.ntmps57
  go_wp2_with fail
  go_loopw [9] (fun i wr => ∃ k : Nat, i = .int .i64 k ∧ k ≤ ls.length ∧ (∀ l ∈ ls.take k, okLine l = true) ∧ (∃ D, wr.ownsMap Tryd.prog 9 (plainElem Tryd.prog 3) w.heap.size k D ∧ Had D ((ls.take k).map Line.sku)) ∧ Fr none' w wr) (fun i _ => ls.length - (intOf i).toNat)
  case atStart => exact ⟨0, rfl, Nat.zero_le _, fun l hl => by simp at hl, ⟨_, World.ownsMap_made _ _ _ _, Had.nil⟩, (Fr.refl _ _).alloc _⟩
  case round =>
    obtain ⟨k, rfl, hk, hok, ⟨D, hown, hD⟩, hf⟩ := hrel
    have hokh := Lib.hid hok
    have hDh := Lib.hid hD
    have hfh := Lib.hid hf
    clear hok hD
    by_cases hlt : k < ls.length
    · obtain ⟨b, o, rfl, hb, p0, p1⟩ := (H.out.keep0 hf).elem k hlt
      have hlw := hwfh.out _ (List.getElem_mem hlt)
      obtain ⟨l, hl⟩ : ∃ l, l = ls[k] := ⟨_, rfl⟩
      rw [← hl] at p0 p1 hlw
      have hlh := Lib.hid hl
      have hsz := hlw.1
      have hkey := okLine_wf hlw
      have hlwh := Lib.hid hlw
      clear hl hf hlw
      go_wp2_with fail
      refine (iname_any _ _ hsz).mono ?_
      rintro e w1 ⟨rfl, f1⟩
      have q1 := f1.blk (k := wr.heap.size) (blk_alloc_new rfl) id
      have g0 : w1.cell? ⟨wr.heap.size, 0, none⟩ = some (.string l.sku) := cell_of_blk (o := 0) q1 rfl
      have g1 : w1.cell? ⟨wr.heap.size, 1, none⟩ = some (.int .i64 l.n) := cell_of_blk (o := 1) q1 rfl
      have fa : Fr none' wr (wr.alloc (.cells #[.string l.sku, .int .i64 l.n] 71)) := (Fr.refl _ _).alloc _
      have F1 := fa.trans f1 (fun _ _ h => h)
      have hown1 : w1.ownsMap Tryd.prog 9 (plainElem Tryd.prog 3) w.heap.size k D := hown.kept F1.grow (by simp)
      have F1h := Lib.hid (hfh.out.trans F1 (fun _ _ h => h))
      have hsz1 := Nat.le_trans hfh.out.size F1.size
      have h1 := Lib.hid hown1
      clear q1 fa F1 f1 hown hown1
      rcases (show okName l.sku = true ∨ okName l.sku = false by cases okName l.sku <;> simp) with e1 | e1
      · rw [e1]
        have E1 := Lib.hid e1
        clear e1
        go_wp2_with fail
        refine (iqty_any _ _).mono ?_
        rintro e w' ⟨rfl, rfl⟩
        rcases (show okQty l.n = true ∨ okQty l.n = false by cases okQty l.n <;> simp) with e2 | e2
        · rw [e2]
          have E2 := Lib.hid e2
          clear e2
          go_wp2_with (at_mapUpdate; refine wpList_mapUpdate_own _ rfl _ _ _ 89 rfl 9 3 strKeyed Tryd.underlying89 _ w.heap.size k _ rfl h1.out (by unfold maxLen; omega) _ _ _ rfl rfl hkey _ [] (plainElem_int Tryd.underlying3 one_wf) ?_; intro w2 hown2 hg2)
          have F2 := F1h.out.grown hg2 (fun j hj => by cases hj; exact .inl (Nat.le_refl _))
          have h2 := Lib.hid hown2
          have F2h := Lib.hid F2
          clear hown2 hg2 F2 g0 g1
          go_roundw
          case rel =>
            have e : ls.take (k + 1) = ls.take k ++ [l] := by rw [List.take_succ_eq_append_getElem hlt, ← hlh.out]
            exact ⟨k + 1, by go_num, by omega, fun x hx => by
              rw [e] at hx
              rcases List.mem_append.1 hx with hx | hx
              · exact hokh.out x hx
              · rw [List.mem_singleton.1 hx]; unfold okLine; rw [E1.out, E2.out]; rfl, ⟨_, h2.out, by rw [e, List.map_append]; exact hDh.out.put _ _⟩, F2h.out⟩
          case measure => simp [intOf]; omega
        · rw [e2]
          have hbad : okLines ls = false := okLines_bad hlt (by rw [← hlh.out]; unfold okLine; rw [e2]; simp)
          have hbh := Lib.hid hbad
          clear e2 hbad
          go_wp2_with fail
          go_ret
          exact ⟨ret_bool hbh.out.symm, F1h.out⟩
      · rw [e1]
        have hbad : okLines ls = false := okLines_bad hlt (by rw [← hlh.out]; unfold okLine; rw [e1]; rfl)
        have hbh := Lib.hid hbad
        clear e1 hbad
        go_wp2_with fail
        go_ret
        exact ⟨ret_bool hbh.out.symm, F1h.out⟩
    · have hke : k = ls.length := by omega
      subst hke
      rw [List.take_length] at hokh hDh
      have hall : ls.all okLine = true := List.all_eq_true.2 (fun l hl => hokh.out l hl)
      obtain ⟨s1, s2⟩ := hDh.out.size
      rw [List.length_map] at s1 s2
      have hnd : ((Maps.size D : Int) == (ls.length : Int)) = decide (ls.map Line.sku).Nodup := by
        rw [Bool.eq_iff_iff]
        simp only [beq_iff_eq, decide_eq_true_eq]
        rw [← s2]; omega
      have hnd' : (Maps.size D == ls.length) = decide (ls.map Line.sku).Nodup := by
        rw [Bool.eq_iff_iff]
        simp only [beq_iff_eq, decide_eq_true_eq]
        exact s2
      have hfin : okLines ls = ((decide (1 ≤ ls.length) && decide (ls.length ≤ 4)) && decide (ls.map Line.sku).Nodup) := by unfold okLines; rw [hall]; rfl
      have hF := Lib.hid hfin
      have h1 := Lib.hid hown
      obtain ⟨nd, hnde⟩ : ∃ nd, nd = decide (ls.map Line.sku).Nodup := ⟨_, rfl⟩
      rw [← hnde] at hnd hnd' hF
      clear hfin hall hnde s1 s2 hown hokh hDh
      by_cases h0 : 1 ≤ ls.length
      · by_cases h4 : ls.length ≤ 4
        · have q0 : (0 : Int) < (ls.length : Int) := by omega
          have q4 : (ls.length : Int) ≤ 4 := by omega
          rw [decide_eq_true h0, decide_eq_true h4] at hF
          have hlen := fun ty => h1.out.len Tryd.underlying89 ty
          go_wp2_with fail
          go_ret
          exact ⟨ret_bool (by rw [hF.out]; rfl), hf⟩
        · have q0 : (0 : Int) < (ls.length : Int) := by omega
          have q4 : ¬ (ls.length : Int) ≤ 4 := by omega
          rw [decide_eq_false h4] at hF
          clear hnd hnd'
          go_wp2_with fail
          go_ret
          exact ⟨ret_bool (by rw [hF.out]; simp), hf⟩
      · rw [decide_eq_false h0] at hF
        have q0 : ¬ (0 : Int) < (ls.length : Int) := by omega
        clear hnd hnd'
        go_wp2_with fail
        go_ret
        exact ⟨ret_bool (by rw [hF.out]; simp), hf⟩

end Go.Proofs.YtmhicplhfbnpaaaDoor
