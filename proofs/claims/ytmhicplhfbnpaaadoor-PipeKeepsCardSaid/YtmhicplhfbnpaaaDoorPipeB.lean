/-
  gimbal/pipe: Trim, New, From, Get, Append.
-/
import Derived.Test.YtmhicplhfbnpaaaDoorPipeA
import Derived.Test.YtmhicplhfbnpaaaDoorItemE
namespace Go.Proofs.YtmhicplhfbnpaaaDoor
set_option linter.unusedVariables false
set_option linter.unusedSimpArgs false
open Go.RowKit
variable {F : Nat → Prop}

set_option maxHeartbeats 2000000 in
theorem ptrim_any (p : Nat) (base op : Int) (xs : List EV) (w : World) (h : Pp F w p base xs) (hb : 0 ≤ base ∧ base ≤ 1152921504606846976) (ho : -9223372036854775808 ≤ op ∧ op ≤ 9223372036854775807) :
    Calls Tryd.prog 25 #[.pointer (some ⟨p, 0, none⟩), .int .i64 op] w fun e w' => ((base ≤ op ∧ op ≤ base + xs.length) ∧ TurnPost F w p 0 op (xs.drop (op - base).toNat) e w') ∨ ((op < base ∨ base + xs.length < op) ∧ TurnPost F w p 9 base xs e w') := by
  have H := Lib.hid h
  obtain ⟨lv, hh, hp⟩ := h.row
  obtain ⟨a, c, rfl, hc⟩ := hp.cells
  have hhh := Lib.hid hh
  have hph := Lib.hid hp
  clear hh hp h
  go_enter Tryd.func25, Tryd.ntmps25
  go_wp2_with fail
  refine (pplace_any _ _ _ _ _ H.out hb ho).mono ?_
  rintro e w' ⟨⟨n, rfl⟩, ⟨h1, h2, rfl⟩ | ⟨h1, rfl⟩⟩
  · obtain ⟨m, hm⟩ : ∃ m : Nat, op - base = m := ⟨(op - base).toNat, by omega⟩
    have hml : m ≤ xs.length := by omega
    have hmh := Lib.hid hm
    have h12 := Lib.hid (And.intro h1 h2)
    rw [hm]
    have hr := run_trim3 a xs.length c m hml hc
    obtain ⟨a', ha'⟩ : ∃ a', a' = (if xs.length = m then a else a.map (·.add (m * 7))) := ⟨_, rfl⟩
    have ha'h := Lib.hid ha'
    rw [← ha'] at hr
    have c0 : (w.drewN n).cell? ⟨p, 0, none⟩ = some (.int .i64 base) := by rw [drewN_cell]; exact cell_of_blk (o := 0) hhh.out rfl
    have c1 : (w.drewN n).cell? ⟨p, 1, none⟩ = some (.slice a xs.length c) := by rw [drewN_cell]; exact cell_of_blk (o := 1) hhh.out rfl
    have z1 : (w.drewN n).frozen? ⟨p, 1, none⟩ = false := free_of_blk (o := 1) (blk_drewN.trans hhh.out)
    have z0 : (w.drewN n).frozen? ⟨p, 0, none⟩ = false := free_of_blk (o := 0) (blk_drewN.trans hhh.out)
    obtain ⟨w1, hw1⟩ : ∃ w1, w1 = w.drewN n := ⟨_, rfl⟩
    rw [← hw1] at c0 c1 z0 z1 ⊢
    have hw1h := Lib.hid hw1
    clear hm h1 h2 hw1 ha'
    go_wp2_with fail
    go_region
    go_wp2_with fail
    go_ret
    have f0 : Fr none' w w1 := by rw [hw1h.out]; exact (Fr.refl _ _).drewN n
    have q1 := f0.blk hhh.out id
    have f1 : Fr (one p) w1 ((w1.setCell ⟨p, 1, none⟩ (.slice a' (xs.length - m) (xs.length - m))).setCell ⟨p, 0, none⟩ (.int .i64 op)).drew := (((Fr.refl _ _).set1 _).set1 _).drew
    refine .inl ⟨h12.out, rfl, ?_, (f0.mono (fun _ _ h => h.elim)).trans f1 (fun _ _ h => h)⟩
    rw [hmh.out, Int.toNat_natCast]
    exact (H.out.keep0 f0).set f1 (by rw [blk_drew, blk_set_at (blk_set_at q1 rfl) rfl]; rfl) (by rw [ha'h.out]; exact (hph.out.keep f0 (fun _ _ _ h => h)).drop m hml) (by rw [List.length_drop]; have := H.out.few; omega) (fun x hx => H.out.wf x (List.mem_of_mem_drop hx))
  · have h1h := Lib.hid h1
    clear h1
    go_wp2_with fail
    go_ret
    exact .inr ⟨h1h.out, rfl, H.out.keep0 ((Fr.refl _ _).drewN n), (Fr.refl _ _).drewN n⟩

theorem pnew_ok (base : Int) (w : World) (hb : 0 ≤ base ∧ base ≤ 9007199254740991) :
    Calls Tryd.prog 9 #[.int .i64 base] w fun e w' => e = .returned (.tuple #[.pointer (some ⟨w.heap.size, 0, none⟩), .int .i64 0]) ∧ Pp none' w' w.heap.size base [] ∧ Fr none' w w' := by
  obtain ⟨h1, h2⟩ := hb
  go_enter Tryd.func9, Tryd.ntmps9
  go_wp2_with fail
  go_ret2
  exact ⟨rfl, ⟨⟨_, blk_alloc_new rfl, ⟨Sl.nil _ _, In.none _ _ _, (fun _ h => by cases h), .inr ⟨_, _, rfl⟩⟩⟩, id, by simp, (fun _ h => by cases h)⟩, (Fr.refl _ _).alloc _⟩
theorem pnew_no (base : Int) (w : World) (hb : base < 0 ∨ 9007199254740991 < base) :
    Calls Tryd.prog 9 #[.int .i64 base] w fun e w' => e = .returned (.tuple #[.pointer none, .int .i64 2]) ∧ w = w' := by
  rcases hb with h | h
  · go_enter Tryd.func9, Tryd.ntmps9
    go_wp2_with fail
    go_ret2
    exact ⟨rfl, rfl⟩
  · have h' : ¬ base < 0 := by omega
    go_enter Tryd.func9, Tryd.ntmps9
    go_wp2_with fail
    go_ret2
    exact ⟨rfl, rfl⟩

/-- What From hands back. -/
def FromPost (w : World) (xs : List EV) (m : Nat) (e : Ending) (w' : World) : Prop := ∃ v ys, e = .returned (.tuple #[v, .int .i64 0]) ∧ ys.map EV.e = (xs.drop m).map EV.e ∧ OwnEnts w.heap.size w' v ys ∧ Fr none' w w'

set_option maxHeartbeats 4000000 in
theorem pfrom_any (p : Nat) (base op : Int) (xs : List EV) (w : World) (h : Pp F w p base xs) (hb : 0 ≤ base ∧ base ≤ 1152921504606846976) (ho : -9223372036854775808 ≤ op ∧ op ≤ 9223372036854775807) :
    Calls Tryd.prog 26 #[.pointer (some ⟨p, 0, none⟩), .int .i64 op] w fun e w' => ((base ≤ op ∧ op ≤ base + xs.length) ∧ FromPost w xs (op - base).toNat e w') ∨ ((op < base ∨ base + xs.length < op) ∧ e = .returned (.tuple #[.slice none 0 0, .int .i64 9]) ∧ Fr none' w w') := by
  obtain ⟨i0, hi, hz0, hz1, hz2⟩ := info_parts Tryd.infoEnt
  have H := Lib.hid h
  have hfew := h.few
  obtain ⟨lv, hh, hp⟩ := h.row
  obtain ⟨a, c, rfl, hc⟩ := hp.cells
  have hhh := Lib.hid hh
  have hph := Lib.hid hp
  clear hh hp h
  go_enter Tryd.func26, Tryd.ntmps26
  go_wp2_with fail
  refine (pplace_any _ _ _ _ _ H.out hb ho).mono ?_
  rintro e w' ⟨⟨n, rfl⟩, ⟨h1, h2, rfl⟩ | ⟨h1, rfl⟩⟩
  · obtain ⟨m, hm⟩ : ∃ m : Nat, op - base = m := ⟨(op - base).toNat, by omega⟩
    have hml : m ≤ xs.length := by omega
    have hmh := Lib.hid hm
    have h12 := Lib.hid (And.intro h1 h2)
    rw [hm]
    obtain ⟨L, hL⟩ : ∃ L, L = xs.length - m := ⟨_, rfl⟩
    have hLi : IntKind.i64.wrap ((xs.length : Int) - (m : Int)) = (L : Int) := by rw [IntKind.wrap_i64]; omega
    have hr := run_trim3 a xs.length c m hml hc
    obtain ⟨a', ha'⟩ : ∃ a', a' = (if xs.length = m then a else a.map (·.add (m * 7))) := ⟨_, rfl⟩
    have f0 : Fr none' w (w.drewN n) := (Fr.refl _ _).drewN n
    have hD := hph.out.drop m hml
    rw [← ha', ← hL] at hr hD
    have hDe := Lib.hid hD.ents
    have hf0 := Lib.hid f0
    have c1 : (w.drewN n).cell? ⟨p, 1, none⟩ = some (.slice a xs.length c) := by rw [drewN_cell]; exact cell_of_blk (o := 1) hhh.out rfl
    have hpl : p < (w.drewN n).heap.size := Nat.lt_of_lt_of_le (lt_of_blk hhh.out) f0.size
    obtain ⟨w1, hw1⟩ : ∃ w1, w1 = w.drewN n := ⟨_, rfl⟩
    rw [← hw1] at hf0 c1 hpl ⊢
    have hdl : (xs.drop m).length = L := by rw [List.length_drop, hL]
    have hdlh := Lib.hid hdl
    have hL24 : L ≤ 24 := by omega
    have hdw := Lib.hid (show ∀ x ∈ xs.drop m, x.e.wf from fun x hx => H.out.wf x (List.mem_of_mem_drop hx))
    obtain ⟨zs, hzs⟩ : ∃ zs, zs = xs.drop m := ⟨_, rfl⟩
    have hzh := Lib.hid hzs
    rw [← hzs] at hdlh hdw hDe
    have hsz1 := hf0.out.size
    clear hm h1 h2 hw1 hL ha' hD f0 hdl hzs
    go_wp2_with (at_make; refine wpList_make_own _ rfl _ _ 35 rfl w.heap.size 34 i0 _ 7 Tryd.underlying35 hi hz0 hz1 _ _ _ L rfl rfl (by first | exact hLi | (simp [hLi])) (by rw [hz2]; omega) (by unfold maxLen; omega) (by omega) ?_; intro w2 hown2 hg2; have f2 : Fr none' w1 w2 := (Fr.refl _ _).grown hg2 (fun k hk => by cases hk); have c1' : w2.cell? ⟨p, 1, none⟩ = some (.slice a xs.length c) := (f2.cell (p := ⟨p, 1, none⟩) hpl id).trans c1; have F2 := Lib.hid (hf0.out.trans f2 (fun _ _ h => h)); have ho2 := Lib.hid hown2; clear hown2 hg2 c1 f2)
    go_quiet (fail)
    go_wp2_with fail
    obtain ⟨w3, hw3⟩ : ∃ w3, w3 = w2.drewN nq := ⟨_, rfl⟩
    have F3 : Fr none' w w3 := by rw [hw3]; exact F2.out.drewN nq
    have hst : CRow w zs 0 (.slice (some ⟨w1.heap.size, 0, none⟩) 0 L) w3 := ⟨[], rfl, rfl, ⟨ownsRow_keep ho2.out (show Fr none' w2 w3 by rw [hw3]; exact (Fr.refl _ _).drewN nq) (fun _ _ h => h), fun _ h => by cases h⟩, F3⟩
    rw [← hw3]
    have hsth := Lib.hid hst
    clear hst F3 hw3 c1' ho2 F2
    go_loopw [8, 45] (fun s i wr => ∃ k : Nat, i = .int .i64 k ∧ k ≤ L ∧ CRow w zs k s wr) (fun _ i _ => L - (intOf i).toNat)
    case atStart => exact ⟨0, rfl, Nat.zero_le _, hsth.out⟩
    case round =>
      obtain ⟨k, rfl, hk, ys, hyl, hye, ho, hf⟩ := hrel
      have hfh := Lib.hid hf
      have hoh := Lib.hid ho
      have hyh := Lib.hid hye
      obtain ⟨sa, sc, rfl⟩ := ho.ents.cells
      rw [hyl] at hoh ⊢
      by_cases hlt : k < L
      · have hlz : k < zs.length := by rw [hdlh.out]; exact hlt
        have T := hDe.out.keep0 hf
        rw [← hdlh.out] at T
        obtain ⟨b, o, rfl, hb, -, hcc⟩ := T.elem k hlz
        have hl := T.lines _ (List.getElem_mem hlz)
        have hll := (hdw.out _ (List.getElem_mem hlz)).many
        obtain ⟨x, hx⟩ : ∃ x, x = zs[k] := ⟨_, rfl⟩
        have hxh := Lib.hid hx
        rw [← hx] at hcc hl hll
        obtain ⟨c0, c1, c2, c3, c4, c5, c6⟩ := hcc
        obtain ⟨la, lc, hlv⟩ := hl.cells
        rw [hlv] at c6 hl
        have hyl' := Lib.hid hyl
        have fb : Fr none' wr (wr.alloc (.cells #[.int .i64 x.e.client, .int .i64 x.e.num, .int .i64 x.e.kind, .string x.e.sku, .int .i64 x.e.order, .int .i64 x.e.n, .slice la x.e.lines.length lc] 34)) := (Fr.refl _ _).alloc _
        have hlb := Lib.hid (hl.keep0 fb)
        have hfb := Lib.hid fb
        clear hf ho hye hx hlv hyl T hl fb
        go_wp2_with fail
        refine (ecopy_any _ _ _ _ _ _ _ _ _ hlb.out hll).mono ?_
        rintro e w4 ⟨v', rfl, hv', f1'⟩
        obtain ⟨va, vc, rfl⟩ := hv'.cells
        dsimp only
        have f1 := hfb.out.trans f1' (fun _ _ h => h)
        have fa : Fr none' w4 (w4.alloc (.cells #[.int .i64 x.e.client, .int .i64 x.e.num, .int .i64 x.e.kind, .string x.e.sku, .int .i64 x.e.order, .int .i64 x.e.n, .slice va x.e.lines.length vc] 34)) := (Fr.refl _ _).alloc _
        have hown := hoh.out.keep0 (f1.trans fa (fun _ _ h => h))
        have hyx := ent_new w4 ⟨x.e, .slice va x.e.lines.length vc⟩ _ rfl
        have hs1 := hfb.out.size
        have hx1 : LinesAt (fun b => w.heap.size ≤ b ∧ (Value.slice sa k sc).ownBlock ≠ some b) (w4.alloc (.cells #[.int .i64 x.e.client, .int .i64 x.e.num, .int .i64 x.e.kind, .string x.e.sku, .int .i64 x.e.order, .int .i64 x.e.n, .slice va x.e.lines.length vc] 34)) (.slice va x.e.lines.length vc) x.e.lines :=
          (hv'.keep0 fa).mono (fun b hb => ⟨Nat.le_trans (Nat.le_trans hfh.out.size hs1) hb.1, fun e => by have := (ownsRow_block hoh.out.own b e).2; have := hb.1; omega⟩)
        have F2 := Lib.hid ((hfh.out.trans f1 (fun _ _ h => h)).trans fa (fun _ _ h => h))
        have hsz := Nat.le_trans hfh.out.size f1.size
        have hownh := Lib.hid hown
        have hyxh := Lib.hid hyx
        have hx1h := Lib.hid hx1
        have hrow := hown.own
        rw [hyl'.out] at hrow
        have hrowh := Lib.hid hrow
        clear c0 c1 c2 c3 c4 c5 c6 hv' fa hown hyx hx1 hrow f1 f1'
        go_wp2_with (at_builtin; refine wpList_app_own2 rfl (.tmp 49) (.tmp 52) 35 rfl w.heap.size 34 i0 _ 7 80 Tryd.underlying35 hi hz0 hz1 hz2 rfl (by decide) _ k _ rfl hrowh.out _ 1 _ rfl hyxh.out (EV.one _ ⟨_, _, _, rfl⟩) (by omega) (by omega) (by simp; omega) ?_; intro v2 w5 ho2 hg2 hb2)
        have hpush := (hownh.out.push hx1h.out (by simp; omega) (by rw [hyl'.out]; exact ho2) hg2 hb2)
        have F3 : Fr none' w w5 := F2.out.grown hg2 (fun b hb => .inl (ownsRow_block hrowh.out b hb).1)
        have hph' := Lib.hid hpush
        have F3h := Lib.hid F3
        clear ho2 hg2 hb2 hpush F3
        go_roundw
        case rel => exact ⟨k + 1, by go_num, by omega, _, by rw [List.length_append, hyl'.out]; rfl, by rw [List.map_append, hyh.out, List.take_succ_eq_append_getElem (by rw [hdlh.out]; exact hlt), List.map_append, ← hxh.out]; rfl, hph'.out, F3h.out⟩
        case measure => simp [intOf]; omega
      · go_wp2_with fail
        go_ret2
        have hke : k = zs.length := by have := hdlh.out; omega
        rw [hke, List.take_length] at hye
        refine .inl ⟨h12.out, _, ys, rfl, ?_, by rw [← hyl]; exact ho, hf⟩
        rw [hye, hzh.out, hmh.out, Int.toNat_natCast]
  · have h1h := Lib.hid h1
    clear h1
    go_wp2_with fail
    go_ret2
    exact .inr ⟨h1h.out, rfl, (Fr.refl _ _).drewN n⟩

/-- What Get hands back where there is one. -/
def GetPost (w : World) (x : Ent) (e : Ending) (w' : World) : Prop := ∃ v', e = .returned (.tuple #[.agg #[.int .i64 x.client, .int .i64 x.num, .int .i64 x.kind, .string x.sku, .int .i64 x.order, .int .i64 x.n, v'], .int .i64 0]) ∧ LinesAt (New w w') w' v' x.lines ∧ Fr none' w w'
def GetNo (w : World) (e : Ending) (w' : World) : Prop := e = .returned (.tuple #[.agg #[.int .i64 0, .int .i64 0, .int .i64 0, .string ⟨#[]⟩, .int .i64 0, .int .i64 0, .slice none 0 0], .int .i64 9]) ∧ Fr none' w w'

set_option maxHeartbeats 4000000 in
theorem pget_any (p : Nat) (base op : Int) (xs : List EV) (w : World) (h : Pp F w p base xs) (hb : 0 ≤ base ∧ base ≤ 1152921504606846976) (ho : -9223372036854775808 ≤ op ∧ op ≤ 9223372036854775807) :
    Calls Tryd.prog 31 #[.pointer (some ⟨p, 0, none⟩), .int .i64 op] w fun e w' => (∃ hi : (op - base - 1).toNat < xs.length, base < op ∧ GetPost w xs[(op - base - 1).toNat].e e w') ∨ ((op ≤ base ∨ base + xs.length < op) ∧ GetNo w e w') := by
  obtain ⟨g, hg⟩ : ∃ g, g = w.heap.size := ⟨_, rfl⟩
  obtain ⟨wa, hwa⟩ : ∃ wa, wa = w.alloc (.cells #[.int .i64 0, .int .i64 0, .int .i64 0, .string ⟨#[]⟩, .int .i64 0, .int .i64 0, .slice none 0 0] 34) := ⟨_, rfl⟩
  have fa : Fr none' w wa := by rw [hwa]; exact (Fr.refl _ _).alloc _
  have qa : wa.heap[g]? = some (.cells #[.int .i64 0, .int .i64 0, .int .i64 0, .string ⟨#[]⟩, .int .i64 0, .int .i64 0, .slice none 0 0] 34 (0, 0)) := by rw [hwa]; exact blk_alloc_new hg
  have H := Lib.hid (h.keep0 fa)
  have hfew := h.few
  have qah := Lib.hid qa
  have fah := Lib.hid fa
  clear h fa qa
  go_enter Tryd.func31, Tryd.ntmps31
  go_wp2_with fail
  rw [← hg, ← hwa]
  have hgh := Lib.hid hg
  clear hg hwa
  refine (pplace_any _ _ _ _ _ H.out hb ho).mono ?_
  rintro e w' ⟨⟨n, rfl⟩, ⟨h1, h2, rfl⟩ | ⟨h1, rfl⟩⟩
  · obtain ⟨m, hm⟩ : ∃ m : Nat, op - base = m := ⟨(op - base).toNat, by omega⟩
    have hml : m ≤ xs.length := by omega
    have hmh := Lib.hid hm
    have h12 := Lib.hid (And.intro h1 h2)
    rw [hm]
    have f0 : Fr none' wa (wa.drewN n) := (Fr.refl _ _).drewN n
    have hf0 := Lib.hid f0
    obtain ⟨w1, hw1⟩ : ∃ w1, w1 = wa.drewN n := ⟨_, rfl⟩
    rw [← hw1] at hf0 ⊢
    clear hm h1 h2 hw1 f0
    have q1 := hf0.out.blk qah.out id
    obtain ⟨⟨k0, k1, k2, k3, k4, k5, k6⟩, ⟨y0, y1, y2, y3, y4, y5, y6⟩⟩ := cells7 q1
    by_cases hm0 : m = 0
    · subst hm0
      clear q1
      go_wp2_with fail
      refine bodyPost_ret (v := .tuple #[.agg #[.int .i64 0, .int .i64 0, .int .i64 0, .string ⟨#[]⟩, .int .i64 0, .int .i64 0, .slice none 0 0], .int .i64 9]) (by simp [results, Tryd.results31, go_sem, k0, k1, k2, k3, k4, k5, k6]) rfl (.inr ⟨.inl (by have := hmh.out; omega), rfl, ?_⟩)
      have Fx : Fr (one g) w1 (((((((w1.setCell ⟨g, 0, none⟩ (.int .i64 0)).setCell ⟨g, 1, none⟩ (.int .i64 0)).setCell ⟨g, 2, none⟩ (.int .i64 0)).setCell ⟨g, 3, none⟩ (.string ⟨#[]⟩)).setCell ⟨g, 4, none⟩ (.int .i64 0)).setCell ⟨g, 5, none⟩ (.int .i64 0)).setCell ⟨g, 6, none⟩ (.slice none 0 0)) := (((((((Fr.refl _ _).set1 _).set1 _).set1 _).set1 _).set1 _).set1 _).set1 _
      exact ((fah.out.trans hf0.out (fun _ _ h => h)).trans Fx (fun i hi e => by cases e; have := hgh.out; omega))
    · have H1 := H.out.keep0 hf0.out
      obtain ⟨lv, hh, hp⟩ := H1.row
      obtain ⟨a, c, rfl, hc⟩ := hp.cells
      have c1 : w1.cell? ⟨p, 1, none⟩ = some (.slice a xs.length c) := cell_of_blk (o := 1) hh rfl
      obtain ⟨j, hj⟩ : ∃ j, m = j + 1 := ⟨m - 1, by omega⟩
      subst hj
      have hjl : j < xs.length := by omega
      have hw2 : IntKind.i64.wrap (((j + 1 : Nat) : Int) - 1) = (j : Int) := by rw [IntKind.wrap_i64]; omega
      have hw3 : IntKind.i64.wrap ((j : Int) + 1 - 1) = (j : Int) := by rw [IntKind.wrap_i64]; omega
      obtain ⟨b, o, rfl, hb', -, d0, d1, d2, d3, d4, d5, d6⟩ := hp.ents.elem j hjl
      have hl := (hp.lines _ (List.getElem_mem hjl))
      have hll := (H1.wf _ (List.getElem_mem hjl)).many
      have hje : (op - base - 1).toNat = j := by have := hmh.out; omega
      have hjh := Lib.hid hje
      obtain ⟨x, hx⟩ : ∃ x, x = xs[j] := ⟨_, rfl⟩
      rw [← hx] at d0 d1 d2 d3 d4 d5 d6 hl hll
      have hxh := Lib.hid hx
      obtain ⟨x, xv⟩ := x
      obtain ⟨la, lc, hlv⟩ := hl.cells
      dsimp only at d0 d1 d2 d3 d4 d5 d6 hl hll hlv
      subst hlv
      have hlh := Lib.hid hl
      have q1h := Lib.hid q1
      have hz : ¬ ((j : Int) + 1 = 0) := by omega
      have hz2 : (((j : Int) + 1) == 0) = false := by simpa using hz
      clear hh hp hx hl hje q1 H1 hm0 k0 k1 k2 k3 k4 k5 k6 y0 y1 y2 y3 y4 y5 y6
      go_wp2_with fail
      refine (ecopy_any _ _ _ _ _ _ _ _ _ hlh.out hll).mono ?_
      rintro e w2 ⟨v', rfl, hv', f1⟩
      obtain ⟨va, vc, rfl⟩ := hv'.cells
      dsimp only
      have q2 := f1.blk q1h.out id
      obtain ⟨⟨k0, k1, k2, k3, k4, k5, k6⟩, ⟨y0, y1, y2, y3, y4, y5, y6⟩⟩ := cells7 q2
      have hvh := Lib.hid hv'
      have f1h := Lib.hid f1
      have hgl : g < w1.heap.size := lt_of_blk q1h.out
      clear q2 hv' f1
      go_wp2_with fail
      have Fx : Fr (one g) w2 (((((((w2.setCell ⟨g, 0, none⟩ (.int .i64 x.client)).setCell ⟨g, 1, none⟩ (.int .i64 x.num)).setCell ⟨g, 2, none⟩ (.int .i64 x.kind)).setCell ⟨g, 3, none⟩ (.string x.sku)).setCell ⟨g, 4, none⟩ (.int .i64 x.order)).setCell ⟨g, 5, none⟩ (.int .i64 x.n)).setCell ⟨g, 6, none⟩ (.slice va x.lines.length vc)) := (((((((Fr.refl _ _).set1 _).set1 _).set1 _).set1 _).set1 _).set1 _).set1 _
      refine bodyPost_ret (v := .tuple #[.agg #[.int .i64 x.client, .int .i64 x.num, .int .i64 x.kind, .string x.sku, .int .i64 x.order, .int .i64 x.n, .slice va x.lines.length vc], .int .i64 0]) (by simp [results, Tryd.results31, go_sem, k0, k1, k2, k3, k4, k5, k6]) rfl (.inl ⟨by rw [hjh.out]; exact hjl, by have := hmh.out; omega, ?_⟩)
      have hex : xs[(op - base - 1).toNat]'(by rw [hjh.out]; exact hjl) = ⟨x, .slice la x.lines.length lc⟩ := by rw [hxh.out]; simp only [hjh.out]
      rw [hex]
      have fw : Fr none' w w1 := fah.out.trans hf0.out (fun _ _ h => h)
      refine ⟨.slice va x.lines.length vc, rfl, (hvh.out.keep Fx (fun b hb _ e => by cases e; have := hb.1; omega)).mono (fun b hb => ⟨Nat.le_trans fw.size hb.1, Nat.lt_of_lt_of_le hb.2 Fx.size⟩), ?_⟩
      exact ((fw.trans f1h.out (fun _ _ h => h)).trans Fx (fun i hi e => by cases e; have := hgh.out; omega))
  · have f0 : Fr none' wa (wa.drewN n) := (Fr.refl _ _).drewN n
    have hf0 := Lib.hid f0
    obtain ⟨w1, hw1⟩ : ∃ w1, w1 = wa.drewN n := ⟨_, rfl⟩
    rw [← hw1] at hf0 ⊢
    have h1h := Lib.hid (show op ≤ base ∨ base + xs.length < op by omega)
    clear h1 hw1 f0
    have q1 := hf0.out.blk qah.out id
    obtain ⟨⟨k0, k1, k2, k3, k4, k5, k6⟩, ⟨y0, y1, y2, y3, y4, y5, y6⟩⟩ := cells7 q1
    clear q1
    go_wp2_with fail
    refine bodyPost_ret (v := .tuple #[.agg #[.int .i64 0, .int .i64 0, .int .i64 0, .string ⟨#[]⟩, .int .i64 0, .int .i64 0, .slice none 0 0], .int .i64 9]) (by simp [results, Tryd.results31, go_sem, k0, k1, k2, k3, k4, k5, k6]) rfl (.inr ⟨h1h.out, rfl, ?_⟩)
    have Fx : Fr (one g) w1 (((((((w1.setCell ⟨g, 0, none⟩ (.int .i64 0)).setCell ⟨g, 1, none⟩ (.int .i64 0)).setCell ⟨g, 2, none⟩ (.int .i64 0)).setCell ⟨g, 3, none⟩ (.string ⟨#[]⟩)).setCell ⟨g, 4, none⟩ (.int .i64 0)).setCell ⟨g, 5, none⟩ (.int .i64 0)).setCell ⟨g, 6, none⟩ (.slice none 0 0)) := (((((((Fr.refl _ _).set1 _).set1 _).set1 _).set1 _).set1 _).set1 _).set1 _
    exact ((fah.out.trans hf0.out (fun _ _ h => h)).trans Fx (fun i hi e => by cases e; have := hgh.out; omega))

end Go.Proofs.YtmhicplhfbnpaaaDoor
