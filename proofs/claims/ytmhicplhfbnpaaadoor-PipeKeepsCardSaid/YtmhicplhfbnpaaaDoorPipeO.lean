/-
  PipeOwn: the walk.
-/
import Derived.Test.YtmhicplhfbnpaaaDoorPipeW
import Derived.Test.YtmhicplhfbnpaaaDoorLaw
namespace Go.Proofs.YtmhicplhfbnpaaaDoor
set_option linter.unusedVariables false
set_option linter.unusedSimpArgs false
open Go.RowKit

theorem askRow_mem {f : Nat → Int} {n : Nat} {ys : List EV} (h : ys.map EV.e = askRow f n) : ys.length = n ∧ ∀ y ∈ ys, y.e.wf ∧ okEnt y.e = true ∧ y.e.lines = [] := by
  refine ⟨by have := congrArg List.length h; simpa [askRow_length] using this, fun y hy => ?_⟩
  have : y.e ∈ askRow f n := by rw [← h]; exact List.mem_map_of_mem hy
  unfold askRow at this
  obtain ⟨i, _, e⟩ := List.mem_map.1 this
  rw [← e]
  exact ⟨askE_wf _, askE_ok _, askE_lines _⟩

set_option maxRecDepth 100000 in
set_option maxHeartbeats 8000000 in
theorem own_walk (a : Option Addr) (len cap : Nat) (f : Nat → Int) (W : World) (h : IntsAt W a len f) (hlen : len ≤ 9223372036854775807) (hk : KindsAt W) :
    Calls Tryd.prog 7 #[.slice a len cap] W fun e w' => e = .returned (.bool true) ∧ Below W.heap.size W w' := by
  obtain ⟨i0, hi, hz0, hz1, hz2⟩ := info_parts Tryd.infoEnt
  have H := Lib.hid h
  have hkh := Lib.hid hk
  clear h hk
  go_enter Tryd.func7, Tryd.ntmps7
  go_wp2_with fail
  refine (lrow_any a len cap f 24 _ H.out hlen (by omega)).mono ?_
  rintro e w1 ⟨v, ys, rfl, hy, ho, f1⟩
  obtain ⟨ya, yc, rfl⟩ := ho.ents.cells
  obtain ⟨hyl, hyw⟩ := askRow_mem hy
  have hn24 : ys.length ≤ 24 := by omega
  have hywh := Lib.hid hyw
  have ho1 := Lib.hid ho
  have F1 := Lib.hid f1
  have hyh := Lib.hid hy
  clear ho hyw f1 hy hyl
  go_wp2_with fail
  refine (filled_any 3 _ ys _ ho1.out.ents hn24 (fun y hy => ⟨(hywh.out y hy).1, (hywh.out y hy).2.1⟩) (hkh.out.keep0 F1.out) (by omega)).mono ?_
  rintro e w2 ⟨F, p, zs, rfl, hp, hF, hP, hz, f2⟩
  have ho2 := Lib.hid (ho1.out.keep0 f2)
  have hFh := Lib.hid (fun i hi => (hF i hi).2)
  have hp2 := hP.lt
  have P2 := Lib.hid hP
  have F2 := Lib.hid (F1.out.trans f2 (fun _ _ h => h))
  have hzh := Lib.hid hz
  have hzl := Lib.hid (show zs.length = ys.length by simpa using congrArg List.length hz)
  clear ho1 F1 hF hP hz hp f2
  go_wp2_with fail
  refine (pfrom_any p 3 3 _ _ P2.out (by omega) (by omega)).mono ?_
  rintro e w3 (⟨-, v3, us, rfl, hu, hou, f3⟩ | ⟨h, -⟩)
  · rw [show ((3 : Int) - 3).toNat = 0 from rfl, List.drop_zero] at hu
    have hue : us.map EV.e = ys.map EV.e := hu.trans hzh.out
    obtain ⟨ua, uc, rfl⟩ := hou.ents.cells
    have hul := Lib.hid (show us.length = ys.length by simpa using congrArg List.length hue)
    have hu24 : us.length ≤ 24 := by rw [hul.out]; exact hn24
    have ho3 := Lib.hid (ho2.out.keep0 f3)
    have hou3 := Lib.hid hou
    have P3 := Lib.hid (P2.out.keep0 f3)
    have F3 := Lib.hid f3
    have hueh := Lib.hid hue
    have huw : Hid (∀ y ∈ us, y.e.lines.length ≤ 5864062014634) := Lib.hid (fun y hy => by
      have : y.e ∈ ys.map EV.e := by rw [← hue]; exact List.mem_map_of_mem hy
      obtain ⟨z, hz, e⟩ := List.mem_map.1 this
      rw [← e, (hywh.out z hz).2.2]
      decide)
    have hyw2 : Hid (∀ y ∈ ys, y.e.lines.length ≤ 5864062014634) := Lib.hid (fun y hy => by rw [(hywh.out y hy).2.2]; decide)
    clear hu hue hou f3
    go_wp2_with fail
    refine (lsamerow_any _ _ us ys _ hou3.out.ents ho3.out.ents (by omega) (by omega) huw.out hyw2.out).mono ?_
    rintro e w4 ⟨rfl, f4⟩
    rw [decide_eq_true hueh.out]
    have ho4 := Lib.hid (ho3.out.keep0 f4)
    have hou4 := Lib.hid (hou3.out.keep0 f4)
    have F4 := Lib.hid (F3.out.trans f4 (fun _ _ h => h))
    clear ho3 hou3 P3 F3 f4
    go_wp2_with fail
    refine (asks_any _ _).mono ?_
    rintro e w5 ⟨rfl, f5⟩
    have fa : Fr none' w5 (w5.alloc (.cells #[.int .i64 (askE 5).client, .int .i64 (askE 5).num, .int .i64 (askE 5).kind, .string (askE 5).sku, .int .i64 (askE 5).order, .int .i64 (askE 5).n, .slice none 0 0] 34)) := (Fr.refl _ _).alloc _
    have hown := hou4.out.keep0 (f5.trans fa (fun _ _ h => h))
    have hyx := ent_new w5 ⟨askE 5, .slice none 0 0⟩ _ rfl
    have F5 := Lib.hid ((F4.out.trans f5 (fun _ _ h => h)).trans fa (fun _ _ h => h))
    have hsz := Nat.le_trans F4.out.size f5.size
    have hownh := Lib.hid hown
    have hyxh := Lib.hid hyx
    have hrowh := Lib.hid hown.own
    clear fa hown hyx f5 hou4 ho4
    go_wp2_with (at_builtin; refine wpList_app_own2 rfl (.tmp 32) (.tmp 34) 35 rfl w2.heap.size 34 i0 _ 7 80 Tryd.underlying35 hi hz0 hz1 hz2 rfl (by decide) _ us.length _ rfl hrowh.out _ 1 _ rfl hyxh.out (EV.one _ ⟨_, _, _, rfl⟩) (by omega) (by omega) (by simp; omega) ?_; intro v6 w6 ho6 hg6 hb6)
    have F6 : Fr none' w2 w6 := F5.out.grown hg6 (fun b hb => .inl (ownsRow_block hrowh.out b hb).1)
    have F6h := Lib.hid (F6.mono (S' := fun i => w2.heap.size ≤ i) (fun _ _ h => h.elim))
    obtain ⟨G, C, hv6, hG, hcs⟩ : ∃ G C, v6 = .slice (some ⟨G, 0, none⟩) (us.length + 1) C ∧ w2.heap.size ≤ G ∧ us.length + 1 ≤ C ∧ ∃ cs : Array Value, w6.heap[G]? = some (.cells cs 34 (0, 0)) ∧ cs.size = C * 7 := by
      rcases ho6.2 with ⟨_, h⟩ | ⟨G, C, cs, e, h1, h2, h3, _, h5, _⟩
      · omega
      · exact ⟨G, C, e, h1, h3, cs, h2, h5⟩
    subst hv6
    have hCle := hcs.1
    have hcs' := Lib.hid hcs.2
    clear hownh hyxh hrowh F5 F6 ho6 hg6 hb6 hcs F4
    go_wp2_with fail
    go_loopw [7] (fun i wr => ∃ k : Nat, i = .int .i64 k ∧ k ≤ us.length + 1 ∧ (∃ cs : Array Value, wr.heap[G]? = some (.cells cs 34 (0, 0)) ∧ cs.size = C * 7) ∧ Fr (fun i => w2.heap.size ≤ i) w2 wr) (fun i _ => us.length + 1 - (intOf i).toNat)
    case atStart => exact ⟨0, rfl, Nat.zero_le _, hcs'.out, F6h.out⟩
    case round =>
      obtain ⟨k, rfl, hk, ⟨cs, hb, hcs⟩, hf⟩ := hrel
      have hfh := Lib.hid hf
      have hbh := Lib.hid hb
      clear hf
      by_cases hlt : k < us.length + 1
      · have hlt' : (k : Int) < (us.length : Int) + 1 := by omega
        have hjj : k * 7 + 1 < cs.size := by omega
        obtain ⟨u, c1⟩ : ∃ u, wr.cell? ⟨G, k * 7 + 1, none⟩ = some u := ⟨_, cell_of_blk hb (Array.getElem?_eq_getElem hjj)⟩
        have z1 : wr.frozen? ⟨G, k * 7 + 1, none⟩ = false := free_of_blk hb
        have hcsh := Lib.hid hcs
        clear hb hcs hjj
        go_wp2_with fail
        go_roundw
        case rel => exact ⟨k + 1, by go_num, by omega, ⟨_, blk_set_at hbh.out rfl, by rw [Array.size_setIfInBounds]; exact hcsh.out⟩, hfh.out.setCell _ _ (.inr hG)⟩
        case measure => simp [intOf]; omega
      · clear hb hcs hbh F6h hcs'
        go_wp2_with fail
        clear hk hlt
        go_loopw [8] (fun i wr => ∃ k : Nat, i = .int .i64 k ∧ k ≤ ys.length ∧ Fr (fun i => w2.heap.size ≤ i) w2 wr) (fun i _ => ys.length - (intOf i).toNat)
        case atStart => exact ⟨0, rfl, Nat.zero_le _, hfh.out⟩
        case round =>
          obtain ⟨j, rfl, hj, hf2⟩ := hrel
          clear hfh
          have hfr := Lib.hid hf2
          have Pj := Lib.hid (P2.out.keep hf2 (by show ¬ (w2.heap.size ≤ p); omega) (fun b hb hl h => by have := hFh.out b hb; exact absurd h (by omega)))
          have Oj := Lib.hid (ho2.out.ents.keep hf2 (fun b hb hl h => absurd h (by show ¬ (w2.heap.size ≤ b); omega)))
          clear hf2
          by_cases hlt : j < ys.length
          · obtain ⟨b, o, rfl, hb, -, E⟩ := Oj.out.elem j hlt
            have ly := Oj.out.lines _ (List.getElem_mem hlt)
            have hw1 : IntKind.i64.wrap (4 + (j : Int)) = 4 + (j : Int) := by rw [IntKind.wrap_i64]; omega
            have Eh := Lib.hid E
            have lyh := Lib.hid ly
            have hbh := Lib.hid hb
            have hlth := Lib.hid hlt
            have hjz := Lib.hid (show j < zs.length by rw [hzl.out]; exact hlt)
            have nyh := Lib.hid (hyw2.out _ (List.getElem_mem hlt))
            clear E ly hb
            go_wp2_with fail
            refine (pget_any p 3 (4 + (j : Int)) _ _ Pj.out (by omega) (by omega)).mono ?_
            rintro e w7 (⟨hi7, -, v7, rfl, hl7, f7⟩ | ⟨h, -⟩)
            · have hidx : (4 + (j : Int) - 3 - 1).toNat = j := by omega
              obtain ⟨y, hy⟩ : ∃ y, y = ys[j] := ⟨_, rfl⟩
              have he : zs[(4 + (j : Int) - 3 - 1).toNat].e = y.e := by
                have : (zs.map EV.e)[j]? = (ys.map EV.e)[j]? := by rw [hzh.out]
                rw [List.getElem?_map, List.getElem?_map, List.getElem?_eq_getElem hjz.out, List.getElem?_eq_getElem hlt] at this
                rw [hy]
                simp only [hidx]
                exact Option.some.inj this
              rw [he] at hl7 ⊢
              have Ej : EntCell w7 b (o + j * 7) y := by rw [hy]; exact Eh.out.keep hbh.out f7
              have l7 : LinesAt (fun b => W.heap.size ≤ b ∧ b < w2.heap.size) w7 y.v y.e.lines := by rw [hy]; exact lyh.out.keep0 f7
              have ny : y.e.lines.length ≤ 5864062014634 := by rw [hy]; exact nyh.out
              obtain ⟨y, yv⟩ := y
              obtain ⟨la, lc, rfl⟩ := hl7.cells
              obtain ⟨ya', yc', hyv⟩ := l7.cells
              dsimp only at hyv hl7 l7 ny Ej ⊢
              subst hyv
              have fr7 := Lib.hid (hfr.out.trans f7 (fun _ _ h => h.elim))
              have Ejh := Lib.hid Ej
              have l7h := Lib.hid l7
              have hl7h := Lib.hid hl7
              have hbh2 := Lib.hid (Nat.lt_of_lt_of_le hbh.out f7.size)
              clear hidx Eh lyh nyh Ej l7 hl7 f7 hjz hw1
              go_wp2_with fail
              have fd : Fr none' w7 (w7.alloc (.cells #[.int .i64 y.client, .int .i64 y.num, .int .i64 y.kind, .string y.sku, .int .i64 y.order, .int .i64 y.n, .slice la y.lines.length lc] 34)).drew := ((Fr.refl none' w7).alloc _).drew
              have Bk : (w7.alloc (.cells #[.int .i64 y.client, .int .i64 y.num, .int .i64 y.kind, .string y.sku, .int .i64 y.order, .int .i64 y.n, .slice la y.lines.length lc] 34)).drew.heap[w7.heap.size]? = some (.cells #[.int .i64 y.client, .int .i64 y.num, .int .i64 y.kind, .string y.sku, .int .i64 y.order, .int .i64 y.n, .slice la y.lines.length lc] 34 (0, 0)) := by rw [blk_drew]; exact blk_alloc_new rfl
              have Z0 := (cells7 Bk).1
              have Q0 := Ejh.out.keep hbh2.out fd
              go_region_held3 (fun w' => w'.cell? ⟨w7.heap.size, 0, none⟩ = some (.int .i64 y.client) ∧ w'.cell? ⟨w7.heap.size, 1, none⟩ = some (.int .i64 y.num) ∧ w'.cell? ⟨w7.heap.size, 2, none⟩ = some (.int .i64 y.kind) ∧ w'.cell? ⟨w7.heap.size, 3, none⟩ = some (.string y.sku) ∧ w'.cell? ⟨w7.heap.size, 4, none⟩ = some (.int .i64 y.order) ∧ w'.cell? ⟨w7.heap.size, 5, none⟩ = some (.int .i64 y.n) ∧ w'.cell? ⟨w7.heap.size, 6, none⟩ = some (.slice la y.lines.length lc) ∧ w'.cell? ⟨b, o + j * 7, none⟩ = some (.int .i64 y.client) ∧ w'.cell? ⟨b, o + j * 7 + 1, none⟩ = some (.int .i64 y.num) ∧ w'.cell? ⟨b, o + j * 7 + 2, none⟩ = some (.int .i64 y.kind) ∧ w'.cell? ⟨b, o + j * 7 + 3, none⟩ = some (.string y.sku) ∧ w'.cell? ⟨b, o + j * 7 + 4, none⟩ = some (.int .i64 y.order) ∧ w'.cell? ⟨b, o + j * 7 + 5, none⟩ = some (.int .i64 y.n) ∧ w'.cell? ⟨b, o + j * 7 + 6, none⟩ = some (.slice ya' y.lines.length yc'))
                (first | exact ⟨Z0.1, Z0.2.1, Z0.2.2.1, Z0.2.2.2.1, Z0.2.2.2.2.1, Z0.2.2.2.2.2.1, Z0.2.2.2.2.2.2, Q0.c0, Q0.c1, Q0.c2, Q0.c3, Q0.c4, Q0.c5, Q0.c6⟩ | exact ⟨Z1.1, Z1.2.1, Z1.2.2.1, Z1.2.2.2.1, Z1.2.2.2.2.1, Z1.2.2.2.2.2.1, Z1.2.2.2.2.2.2, Q1.c0, Q1.c1, Q1.c2, Q1.c3, Q1.c4, Q1.c5, Q1.c6⟩)
                (first | (go_at_call 32; refine (esame_any y y _ _ _ (hl7h.out.keep0 fd) (l7h.out.keep0 fd) ny ny).mono ?_; rintro e w8 ⟨rfl, f8⟩; have Z1 := (cells7 (f8.blk Bk id)).1; have Q1 := (Ejh.out.keep hbh2.out fd).keep (Nat.lt_of_lt_of_le hbh2.out fd.size) f8))
              have fr8 := Lib.hid ((fr7.out.trans fd (fun _ _ h => h.elim)).trans f8 (fun _ _ h => h.elim))
              clear Z0 Z1 Q0 Q1 Bk f8 fd
              go_wp2_with fail
              go_roundw
              case rel => exact ⟨j + 1, by go_num, by have := hlth.out; omega, fr8.out⟩
              case measure => have := hlth.out; simp [intOf]; omega
            · rw [hzl.out] at h
              omega
          · have hlt' : ¬ ((j : Int) < (ys.length : Int)) := by omega
            clear hlt
            go_wp2_with fail
            clear hlt' hj
            refine (pfrom_any p 3 3 _ _ Pj.out (by omega) (by omega)).mono ?_
            rintro e w7 (⟨-, v7, ts, rfl, ht, hot, f7⟩ | ⟨h, -⟩)
            · rw [show ((3 : Int) - 3).toNat = 0 from rfl, List.drop_zero] at ht
              have hte : ts.map EV.e = ys.map EV.e := ht.trans hzh.out
              obtain ⟨ta, tc, rfl⟩ := hot.ents.cells
              have ht24 : ts.length ≤ 24 := by have : ts.length = ys.length := by simpa using congrArg List.length hte
                                               omega
              have htw : Hid (∀ y ∈ ts, y.e.lines.length ≤ 5864062014634) := Lib.hid (fun y hy => by
                have : y.e ∈ ys.map EV.e := by rw [← hte]; exact List.mem_map_of_mem hy
                obtain ⟨z, hz, e⟩ := List.mem_map.1 this
                rw [← e, (hywh.out z hz).2.2]
                decide)
              have hteh := Lib.hid hte
              have Ot := Lib.hid hot
              have O7 := Lib.hid (Oj.out.keep0 f7)
              have fr7 := Lib.hid (hfr.out.trans f7 (fun _ _ h => h.elim))
              clear ht hte hot f7 hfr Oj
              go_wp2_with fail
              refine (lsamerow_any _ _ ts ys _ Ot.out.ents O7.out (by omega) (by omega) htw.out hyw2.out).mono ?_
              rintro e w8 ⟨rfl, f8⟩
              rw [decide_eq_true hteh.out]
              have fr8 := Lib.hid (fr7.out.trans f8 (fun _ _ h => h.elim))
              clear fr7 f8 Ot O7
              have fW := Lib.hid (F2.out.trans fr8.out (S := none') (fun i hi e => by have := F2.out.size; exact absurd e (by show ¬ (w2.heap.size ≤ i); omega)))
              go_wp2_with fail
              refine (pworks_any _ (hkh.out.keep0 fW.out)).mono ?_
              rintro e w9 ⟨rfl, f9⟩
              have fE := Lib.hid (fW.out.trans f9 (fun _ _ h => h))
              clear f9
              go_wp2_with fail
              go_ret
              exact ⟨rfl, fE.out.below (Nat.le_refl _) (fun _ h => h.elim)⟩
            · omega
  · omega

end Go.Proofs.YtmhicplhfbnpaaaDoor
