/-
  Pipes that are none: nil, and the zero pipe.
-/
import Derived.Test.YtmhicplhfbnpaaaDoorPipeG
import Derived.Test.YtmhicplhfbnpaaaDoorPipeD
namespace Go.Proofs.YtmhicplhfbnpaaaDoor
set_option linter.unusedVariables false
set_option linter.unusedSimpArgs false
open Go.RowKit

def NoPp (w : World) (p : Option Addr) : Prop := p = none ∨ ∃ b, p = some ⟨b, 0, none⟩ ∧ w.heap[b]? = some (.cells #[.int .i64 0, .slice none 0 0, .bool false] 67 (0, 0))
theorem NoPp.keep {w w' : World} {p : Option Addr} (h : NoPp w p) (f : Fr none' w w') : NoPp w' p := by
  rcases h with rfl | ⟨b, rfl, hb⟩
  · exact .inl rfl
  · exact .inr ⟨b, rfl, f.blk hb id⟩

theorem pnone_no {p : Option Addr} {w : World} (h : NoPp w p) : Calls Tryd.prog 40 #[.pointer p] w fun e w' => e = .returned (.bool true) ∧ w = w' := by
  rcases h with rfl | ⟨b, rfl, hb⟩
  · go_enter Tryd.func40, Tryd.ntmps40
    go_wp2
    first | go_ret | go_ret2
    exact ⟨rfl, rfl⟩
  · have c2 := cell_of_blk (o := 2) hb rfl
    clear hb
    go_enter Tryd.func40, Tryd.ntmps40
    go_wp2
    first | go_ret | go_ret2
    exact ⟨rfl, rfl⟩
theorem pbase_no {p : Option Addr} {w : World} (h : NoPp w p) : Calls Tryd.prog 28 #[.pointer p] w fun e w' => e = .returned (.int .i64 0) ∧ w = w' := by
  have hh := Lib.hid h
  clear h
  go_enter Tryd.func28, Tryd.ntmps28
  go_wp2_with fail
  refine (pnone_no hh.out).mono ?_
  rintro e w' ⟨rfl, rfl⟩
  go_wp2_with fail
  first | go_ret | go_ret2
  exact ⟨rfl, rfl⟩
theorem ptop_no {p : Option Addr} {w : World} (h : NoPp w p) : Calls Tryd.prog 29 #[.pointer p] w fun e w' => e = .returned (.int .i64 0) ∧ w = w' := by
  have hh := Lib.hid h
  clear h
  go_enter Tryd.func29, Tryd.ntmps29
  go_wp2_with fail
  refine (pnone_no hh.out).mono ?_
  rintro e w' ⟨rfl, rfl⟩
  go_wp2_with fail
  first | go_ret | go_ret2
  exact ⟨rfl, rfl⟩
theorem pplace_no {p : Option Addr} {w : World} (op : Int) (h : NoPp w p) : Calls Tryd.prog 45 #[.pointer p, .int .i64 op] w fun e w' => e = .returned (.tuple #[.int .i64 0, .int .i64 1]) ∧ w = w' := by
  have hh := Lib.hid h
  clear h
  go_enter Tryd.func45, Tryd.ntmps45
  go_wp2_with fail
  refine (pnone_no hh.out).mono ?_
  rintro e w' ⟨rfl, rfl⟩
  go_wp2_with fail
  first | go_ret | go_ret2
  exact ⟨rfl, rfl⟩
theorem pcut_no {p : Option Addr} {w : World} (op : Int) (h : NoPp w p) : Calls Tryd.prog 24 #[.pointer p, .int .i64 op] w fun e w' => e = .returned (.int .i64 1) ∧ w = w' := by
  have hh := Lib.hid h
  clear h
  go_enter Tryd.func24, Tryd.ntmps24
  go_wp2_with fail
  refine (pplace_no _ hh.out).mono ?_
  rintro e w' ⟨rfl, rfl⟩
  go_wp2_with fail
  first | go_ret | go_ret2
  exact ⟨rfl, rfl⟩
theorem ptrim_no {p : Option Addr} {w : World} (op : Int) (h : NoPp w p) : Calls Tryd.prog 25 #[.pointer p, .int .i64 op] w fun e w' => e = .returned (.int .i64 1) ∧ w = w' := by
  have hh := Lib.hid h
  clear h
  go_enter Tryd.func25, Tryd.ntmps25
  go_wp2_with fail
  refine (pplace_no _ hh.out).mono ?_
  rintro e w' ⟨rfl, rfl⟩
  go_wp2_with fail
  first | go_ret | go_ret2
  exact ⟨rfl, rfl⟩
theorem pfrom_no {p : Option Addr} {w : World} (op : Int) (h : NoPp w p) : Calls Tryd.prog 26 #[.pointer p, .int .i64 op] w fun e w' => e = .returned (.tuple #[.slice none 0 0, .int .i64 1]) ∧ Fr none' w w' := by
  have hh := Lib.hid h
  clear h
  go_enter Tryd.func26, Tryd.ntmps26
  go_wp2_with fail
  refine (pplace_no _ hh.out).mono ?_
  rintro e w' ⟨rfl, rfl⟩
  go_wp2_with fail
  first | go_ret | go_ret2
  exact ⟨rfl, by (repeat (first | exact Fr.refl _ _ | assumption | apply Fr.drew | apply Fr.drewN | apply Fr.alloc | (refine Fr.setCell ?_ _ _ (by first | exact .inr rfl | (left; simp; done) | (left; simp; omega) | (right; simp [one, two]; done)))))⟩
theorem pget_no {p : Option Addr} {w : World} (op : Int) (h : NoPp w p) : Calls Tryd.prog 31 #[.pointer p, .int .i64 op] w fun e w' => e = .returned (.tuple #[.agg #[.int .i64 0, .int .i64 0, .int .i64 0, .string ⟨#[]⟩, .int .i64 0, .int .i64 0, .slice none 0 0], .int .i64 1]) ∧ Fr none' w w' := by
  obtain ⟨g, hg⟩ : ∃ g, g = w.heap.size := ⟨_, rfl⟩
  obtain ⟨wa, hwa⟩ : ∃ wa, wa = w.alloc (.cells #[.int .i64 0, .int .i64 0, .int .i64 0, .string ⟨#[]⟩, .int .i64 0, .int .i64 0, .slice none 0 0] 34) := ⟨_, rfl⟩
  have fa : Fr none' w wa := by rw [hwa]; exact (Fr.refl _ _).alloc _
  have qa : wa.heap[g]? = some (.cells #[.int .i64 0, .int .i64 0, .int .i64 0, .string ⟨#[]⟩, .int .i64 0, .int .i64 0, .slice none 0 0] 34 (0, 0)) := by rw [hwa]; exact blk_alloc_new hg
  have hh := Lib.hid (h.keep fa)
  have qah := Lib.hid qa
  have fah := Lib.hid fa
  clear h fa qa
  go_enter Tryd.func31, Tryd.ntmps31
  go_wp2_with fail
  rw [← hg, ← hwa]
  have hgh := Lib.hid hg
  clear hg hwa
  refine (pplace_no _ hh.out).mono ?_
  rintro e w' ⟨rfl, rfl⟩
  obtain ⟨⟨k0, k1, k2, k3, k4, k5, k6⟩, ⟨y0, y1, y2, y3, y4, y5, y6⟩⟩ := cells7 qah.out
  go_wp2_with fail
  refine bodyPost_ret (v := .tuple #[.agg #[.int .i64 0, .int .i64 0, .int .i64 0, .string ⟨#[]⟩, .int .i64 0, .int .i64 0, .slice none 0 0], .int .i64 1]) (by simp [results, Tryd.results31, go_sem, k0, k1, k2, k3, k4, k5, k6]) rfl ⟨rfl, ?_⟩
  have Fx : Fr (one g) wa (((((((wa.setCell ⟨g, 0, none⟩ (.int .i64 0)).setCell ⟨g, 1, none⟩ (.int .i64 0)).setCell ⟨g, 2, none⟩ (.int .i64 0)).setCell ⟨g, 3, none⟩ (.string ⟨#[]⟩)).setCell ⟨g, 4, none⟩ (.int .i64 0)).setCell ⟨g, 5, none⟩ (.int .i64 0)).setCell ⟨g, 6, none⟩ (.slice none 0 0)) := (((((((Fr.refl _ _).set1 _).set1 _).set1 _).set1 _).set1 _).set1 _).set1 _
  exact (fah.out.trans Fx (fun i hi e => by cases e; have := hgh.out; omega))
theorem pappend_no {p : Option Addr} {w : World} (x : Ent) (lv : Value) (h : NoPp w p) : Calls Tryd.prog 16 #[.pointer p, .agg #[.int .i64 x.client, .int .i64 x.num, .int .i64 x.kind, .string x.sku, .int .i64 x.order, .int .i64 x.n, lv]] w fun e w' => e = .returned (.tuple #[.int .i64 0, .int .i64 1]) ∧ Fr none' w w' := by
  have hh := Lib.hid h
  clear h
  go_enter Tryd.func16, Tryd.ntmps16
  go_wp2_with fail
  refine (pnone_no (hh.out.keep ((Fr.refl _ _).alloc _))).mono ?_
  rintro e w' ⟨rfl, rfl⟩
  go_wp2_with fail
  first | go_ret | go_ret2
  exact ⟨rfl, by (repeat (first | exact Fr.refl _ _ | assumption | apply Fr.drew | apply Fr.drewN | apply Fr.alloc | (refine Fr.setCell ?_ _ _ (by first | exact .inr rfl | (left; simp; done) | (left; simp; omega) | (right; simp [one, two]; done)))))⟩
theorem pagree_no {p : Option Addr} {w : World} (op : Int) (v : Value) (h : NoPp w p) : Calls Tryd.prog 20 #[.pointer p, .int .i64 op, v] w fun e w' => e = .returned (.int .i64 0) ∧ w = w' := by
  have hh := Lib.hid h
  clear h
  go_enter Tryd.func20, Tryd.ntmps20
  go_wp2_with fail
  refine (pnone_no hh.out).mono ?_
  rintro e w' ⟨rfl, rfl⟩
  go_wp2_with fail
  first | go_ret | go_ret2
  exact ⟨rfl, rfl⟩

end Go.Proofs.YtmhicplhfbnpaaaDoor
