/-
  The statements' walks: DiskTears.
-/
import Derived.Test.YtnflppgmccddoaaW
import Derived.RegionTactic
import Derived.Deep.DeepCutAuto
namespace Go.Proofs.Ytnflppgmccddoaa
set_option linter.unusedVariables false
open Go.RowKit

/-- A clipped slice of bytes, in a slot. -/
def Clip (w : World) (v : Value) (L : List UInt8) (m : Nat) : Prop := ∃ a c, v = .slice a m c ∧ Bytes w v L ∧ L.length = m ∧ m ≤ 300
def TCut4 (W : World) (b g : Nat) (s10 s13 : Value) (w : World) : Prop :=
  ∃ L S0 S1 a m c u0 u1 arm, s13 = .int .i64 130 ∧ s10 = .slice a m c ∧ Bytes w (.slice a m c) L ∧ Dk none' w b ⟨L, S0, S1, true, arm⟩ ∧ w.heap[g]? = some (.cells #[u0, u1] 34 (0, 0)) ∧ Bytes w u0 S0 ∧ Bytes w u1 S1 ∧ Fr none' W w

theorem clip_le {w w' : World} {a : Option Addr} {c : Nat} {L : List UInt8} (h : Bytes w (.slice a L.length c) L) (f : Fr none' w w') (hl : L.length ≤ 300) : ∃ L' m, Clip w' (.slice a L.length c) L' m := ⟨L, _, a, c, rfl, h.keep0 f, rfl, hl⟩
theorem clip_gt {w w' : World} {a : Option Addr} {c : Nat} {L : List UInt8} (h : Bytes w (.slice a L.length c) L) (f : Fr none' w w') (hl : 300 < L.length) : ∃ L' m, Clip w' (.slice a 300 c) L' m := ⟨L.take 300, _, a, c, rfl, (h.take rfl 300 (by omega)).keep0 f, by simp; omega, by omega⟩

def TCut1 (W : World) (x0 x1 : Int) (s0 s1 : Value) (w : World) : Prop :=
  (∃ A m, Clip w s0 A m) ∧ (∃ B m, Clip w s1 B m) ∧ Fr none' W w ∧ w.cell? ⟨W.heap.size, 0, none⟩ = some (.int .i64 x0) ∧ w.cell? ⟨W.heap.size, 1, none⟩ = some (.int .i64 x1)
def TCut2 (w1 : World) (m : Nat) (s7 s8 : Value) (w : World) : Prop :=
  ∃ n k : Int, s7 = .int .i64 n ∧ s8 = .int .i64 k ∧ 0 ≤ n ∧ n < m + 3 ∧ 0 ≤ k ∧ k < 3 ∧ Fr none' w1 w

def TCut3 (w9 : World) (T : List UInt8) (s12 : Value) (w : World) : Prop := w.ownsRow w9.heap.size 5 1 s12 T.length (byt T) ∧ Fr none' w9 w

set_option maxRecDepth 100000 in
set_option maxHeartbeats 4000000 in
theorem tears_walk (va vb : Value) (LA LB : List UInt8) (x0 x1 : Int) (W : World) (ha : Bytes W va LA) (hb : Bytes W vb LB) (hla : LA.length ≤ 9223372036854775807) (hlb : LB.length ≤ 9223372036854775807) :
    Calls Try.prog 5 #[va, vb, .agg #[.int .i64 x0, .int .i64 x1]] W fun e w' => e = .returned (.bool true) ∧ Below W.heap.size W w' := by
  obtain ⟨i0, hi, hz0, hz1, hz2⟩ := info_parts Try.info5
  obtain ⟨aA, cA, rfl⟩ := ha.cells
  obtain ⟨aB, cB, rfl⟩ := hb.cells
  obtain ⟨_, fa1, fa2⟩ := ha.facts
  obtain ⟨_, fb1, fb2⟩ := hb.facts
  clear fa2 fb2
  have F0 : Fr none' W (W.alloc (.cells #[.int .i64 x0, .int .i64 x1] 44)).drew := ((Fr.refl _ _).alloc _).drew
  have c0 : (W.alloc (.cells #[.int .i64 x0, .int .i64 x1] 44)).drew.cell? ⟨W.heap.size, 0, none⟩ = some (.int .i64 x0) := by simp
  have c1 : (W.alloc (.cells #[.int .i64 x0, .int .i64 x1] 44)).drew.cell? ⟨W.heap.size, 1, none⟩ = some (.int .i64 x1) := by simp
  have F0' := Lib.hid (And.intro F0 (And.intro c0 c1))
  clear F0 c0 c1
  go_enter Try.func5, Try.ntmps5
  go_upto_region 1 with fail
  go_cut [0, 1] (fun s0 s1 w => TCut1 W x0 x1 s0 s1 w)
  case first =>
    rcases (show LA.length ≤ 300 ∨ 300 < LA.length by omega) with hA | hA
    all_goals
      rcases (show LB.length ≤ 300 ∨ 300 < LB.length by omega) with hB | hB
    all_goals
      go_region
      go_wp2_with fail
      go_meet
      obtain ⟨F0, c0, c1⟩ := F0'.out
      exact ⟨by first | exact clip_le ha F0 hA | exact clip_gt ha F0 hA, by first | exact clip_le hb F0 hB | exact clip_gt hb F0 hB, F0, c0, c1⟩
  case rest =>
    obtain ⟨w1, rfl⟩ : ∃ w1, w1 = wc := ⟨_, rfl⟩
    obtain ⟨⟨A, mA, aA', cA', rfl, hA, hA2, hA3⟩, ⟨B, mB, aB', cB', rfl, hB, hB2, hB3⟩, F1, d0, d1⟩ := hcut
    clear ha hb fa1 fb1 F0' hla hlb
    have hA2' := Lib.hid hA2
    have hB2' := Lib.hid hB2
    have hB4 : B.length ≤ 300 := by omega
    have hA4 : A.length ≤ 300 := by omega
    clear hA2 hB2
    go_wp2_with fail
    go_cut [7, 8] (fun s7 s8 w => TCut2 w1 mB s7 s8 w)
    case first =>
      have hw1 : IntKind.i64.wrap ((mB : Int) + 3) = (mB : Int) + 3 := by rw [IntKind.wrap_i64]; omega
      go_quiet ((first | (go_at_call 16; exact Calls.quiet_of_same (bring_q _ _ _ (by omega) (by omega)))))
      clear hw1
      go_wp2_with fail
      go_meet
      exact ⟨_, _, rfl, rfl, Int.emod_nonneg _ (by omega), Int.emod_lt_of_pos _ (by omega), Int.emod_nonneg _ (by omega), Int.emod_lt_of_pos _ (by omega), (Fr.refl _ _).drewN _⟩
    case rest =>
      obtain ⟨n, k, rfl, rfl, n0, n1, k0, k1, F2⟩ := hcut
      have hA := hA.keep0 F2
      have hB := hB.keep0 F2
      have F3 := F1.trans F2 (fun _ _ h => h)
      obtain ⟨w2, rfl⟩ : ∃ w2, w2 = wc := ⟨_, rfl⟩
      clear F1 F2 d0 d1
      go_wp2_with fail
      refine (dnew_any (V := none') _).mono ?_
      rintro e w3 ⟨b, rfl, hb, h3, f3⟩
      go_wp2_with fail
      refine (append_to h3 (hA.keep0 f3) (by omega) ⟨A, [], [], false, none⟩ 0 (by
        unfold DSt.append
        rw [if_neg (by simp), if_neg (by simp; omega)]
        rfl)).mono ?_
      rintro e w4 ⟨rfl, h4, f4⟩
      go_wp2_with fail
      refine (slot_lit h4 0 _ [1] 1 ⟨A, [1], [], false, none⟩ 0 rfl rfl rfl (by decide)).mono ?_
      rintro e w5 ⟨rfl, h5, f5⟩
      go_wp2_with fail
      refine (slot_lit h5 1 _ [2, 2] 2 ⟨A, [1], [2, 2], false, none⟩ 0 rfl rfl rfl (by decide)).mono ?_
      rintro e w6 ⟨rfl, h6, f6⟩
      go_wp2_with fail
      refine (arm_to h6 n ⟨A, [1], [2, 2], false, some n⟩ 0 (by omega) (by
        unfold DSt.armed
        rw [if_neg (by simp), if_neg (by omega)])).mono ?_
      rintro e w7 ⟨rfl, h7, f7⟩
      have F7 : Fr (one b) w3 w7 := ((f4.trans f5 (fun _ _ h => h)).trans f6 (fun _ _ h => h)).trans f7 (fun _ _ h => h)
      have G7 : Fr none' w2 w7 := f3.trans F7 (fun i hi h => by cases h; omega)
      have hA7 := hA.keep0 G7
      have hB7 := hB.keep0 G7
      clear h3 h4 h5 h6 f3 f4 f5 f6 f7 F7 hA hB
      go_wp2_with fail
      refine (copyBytes_any _ A _ hA7 (by omega)).mono ?_
      rintro e w8 ⟨v8, rfl, o8, f8, _⟩
      have hv8 := ownsRow_block o8
      have h8 : Dk (fun i => v8.ownBlock = some i) w8 b _ := h7.shift f8 (fun i hi => ⟨.inr (hv8 i hi).1, (hv8 i hi).2⟩)
      have hv8' : ∀ i, v8.ownBlock = some i → i < w8.heap.size := fun i hi => (hv8 i hi).2
      have hv8h := Lib.hid hv8'
      have hv8lo : Hid (∀ i, v8.ownBlock = some i → W.heap.size ≤ i) := Lib.hid (fun i hi => by have := (hv8 i hi).1; have := F3.size; have := G7.size; omega)
      clear hv8 hv8'
      have hB8 := hB7.keep0 f8
      have G8 := G7.trans f8 (fun _ _ h => h)
      have G8s := Lib.hid (And.intro f8.size G7.size)
      clear hA7 hB7 f8 G7 h7
      go_upto_region 7 with fail
      obtain ⟨w9, hw9⟩ : ∃ w9, w9 = ((w8.alloc (Obj.cells #[Value.int IntKind.u8 1] 5)).alloc (Obj.cells #[Value.int IntKind.u8 2, Value.int IntKind.u8 2] 5)).alloc (Obj.cells #[Value.slice (some { block := w8.heap.size, off := 0 }) 1 1, Value.slice (some { block := w8.heap.size + 1, off := 0 }) 2 2] 34) := ⟨_, rfl⟩
      have f9 : Fr none' w8 w9 := by rw [hw9]; (repeat (first | exact Fr.refl _ _ | assumption | apply Fr.drew | apply Fr.drewN | apply Fr.alloc | (refine Fr.setCell ?_ _ _ (by first | exact .inr rfl | (left; simp; done) | (left; simp; omega) | (right; simp [one, two]; done)))))
      have q9 : w9.heap[w8.heap.size + 1 + 1]? = some (.cells #[Value.slice (some { block := w8.heap.size, off := 0 }) 1 1, Value.slice (some { block := w8.heap.size + 1, off := 0 }) 2 2] 34 (0, 0)) := by rw [hw9]; (repeat (first | rw [blk_drew] | rw [blk_drewN] | rw [blk_alloc_old (by first | omega | (simp; done) | (simp; omega))] | rw [blk_set_other (by first | omega | (simp; done) | (simp; omega))] | rw [blk_alloc_new (by first | omega | (simp; done) | (simp; omega))]))
      have t0 : Bytes w9 (Value.slice (some { block := w8.heap.size, off := 0 }) 1 1) [1] := by
        rw [hw9]; exact Bytes.keep0 (w := w8.alloc (Obj.cells #[Value.int IntKind.u8 1] 5)) (bytes_new w8 _ [1] 1 rfl rfl) (((Fr.refl _ _).alloc _).alloc _)
      have t1 : Bytes w9 (Value.slice (some { block := w8.heap.size + 1, off := 0 }) 2 2) [2, 2] := by
        rw [hw9]
        have := bytes_new (w8.alloc (Obj.cells #[Value.int IntKind.u8 1] 5)) #[Value.int IntKind.u8 2, Value.int IntKind.u8 2] [2, 2] 2 rfl rfl
        simp only [World.size_alloc] at this
        exact this.keep0 ((Fr.refl _ _).alloc _)
      rw [← hw9]
      clear hw9
      have h9 := h8.keep0 f9
      have hB9 := hB8.keep0 f9
      have o9 := ownsRow_keep o8 f9 (fun _ _ h => h)
      have G9 := G8.trans f9 (fun _ _ h => h)
      have s9 := f9.size
      have hcB := hB9.facts.2.1
      have o9' := Lib.hid o9
      have hs9 := lt_of_blk q9
      have q9' := Lib.hid q9
      have h8' := Lib.hid h8
      clear h8 hB8 o8 G8 f9 o9 q9
      obtain ⟨T, hT⟩ : ∃ T, T = B.take n.toNat := ⟨_, rfl⟩
      have hT' := Lib.hid hT
      have hTl : T.length ≤ 300 := by rw [hT]; simp; omega
      clear hT
      go_cut [12] (fun s12 w => TCut3 w9 T s12 w)
      case first =>
        obtain ⟨n', rfl⟩ := Int.eq_ofNat_of_zero_le n0
        have eT : T = B.take n' := by rw [hT'.out, Int.toNat_natCast]
        have eT' := Lib.hid eT
        clear eT
        rcases (show n' ≤ mB ∨ mB < n' by omega) with hn | hn
        · have hq : Bytes w9 (.slice aB' n' cB') T := by rw [eT'.out]; exact hB9.take rfl n' hn
          go_wp2_with fail
          refine (copyBytes_any _ T _ hq (by omega)).mono ?_
          rintro e w10 ⟨v10, rfl, o10, f10, _⟩
          go_wp2_with fail
          go_meet
          exact ⟨o10, f10⟩
        · have hq : Bytes w9 (.slice aB' mB cB') T := by rw [eT'.out, List.take_of_length_le (by rw [hB2'.out]; omega)]; exact hB9
          go_wp2_with fail
          refine (copyBytes_any _ T _ hq (by omega)).mono ?_
          rintro e w10 ⟨v10, rfl, o10, f10, _⟩
          go_wp2_with fail
          go_meet
          exact ⟨o10, f10⟩
      case rest =>
        obtain ⟨o10, f10⟩ := hcut
        obtain ⟨w10, rfl⟩ : ∃ w10, w10 = wc := ⟨_, rfl⟩
        have h10 := h9.keep0 f10
        have hB10 := hB9.keep0 f10
        have o10' := Lib.hid o10
        have t0' := t0.keep0 f10
        have t1' := t1.keep0 f10
        have G10 := G9.trans f10 (fun _ _ h => h)
        clear h9 hB9 t0 t1 G9 o10 s9
        have hbW : W.heap.size ≤ b := by have := F3.size; omega
        have GW : Fr none' W w10 := F3.trans G10 (fun _ _ h => h)
        have o9'' := Lib.hid (ownsRow_keep o9'.out f10 (fun _ _ h => h))
        have q10 := f10.blk q9'.out id
        have q10' := Lib.hid q10
        have hg10 := lt_of_blk q10
        have hbg : b < w8.heap.size + 1 + 1 := by
          have := G10.size
          obtain ⟨_, _, _, _, hh, _⟩ := h8'.out
          have := lt_of_blk hh
          omega
        clear q10 o9' q9' f10 F3 G10 h8'
        go_upto_if 72 with fail
        go_cut [10, 13] (fun s10 s13 w => TCut4 W b (w8.heap.size + 1 + 1) s10 s13 w)
        case first =>
          rcases (show k = 2 ∨ k = 0 ∨ k = 1 by omega) with rfl | rfl | rfl
          · go_wp2_with fail
            refine (append_to h10 hB10 (by omega) ⟨A ++ T, [1], [2, 2], true, some n⟩ 130 (by
              unfold DSt.append DSt.laid
              rw [if_neg (by simp), if_neg (by simp; omega)]
              rw [hT'.out]
              rfl)).mono ?_
            rintro e w11 ⟨rfl, h11, f11⟩
            have hvb : ∀ i, v8.ownBlock = some i → ¬ one b i := fun i hi e => h10.apart i hi e
            have o11 := ownsRow_keep o9''.out f11 hvb
            have hb12 := ownsRow_block o10'.out
            have o11' := ownsRow_keep o10'.out f11 (fun i hi e => by have := (hb12 i hi).1; cases e; omega)
            have hsz := f11.size
            have hs8 := G8s.out
            have hT11 : Sl w11 u12 1 T.length (byt T) := Sl.of_own o11'
            have o11h := Lib.hid o11
            clear o11 o11' hb12 hvb
            go_wp2_with (at_builtin; refine wpList_app_own rfl (.tmp 76) (.tmp 77) 27 rfl w7.heap.size 5 i0 (.int .u8 0) 1 1 Try.underlying27 hi hz0 hz1 hz2 rfl (by decide) v8 A.length (byt A) rfl o11h.out u12 T.length (byt T) rfl hT11 (byt_one T) (by omega) (by omega) (by omega) ?_; intro v12 w12 o12 g12)
            have f12 : Fr (fun i => v8.ownBlock = some i) w11 w12 := (Fr.refl _ _).grown g12 (fun k hk => .inr hk)
            have e12 : byt A ++ byt T = byt (A ++ T) := by simp [byt]
            rw [e12] at o12
            have b12 : Bytes w12 v12 (A ++ T) := by unfold Bytes; rw [List.length_append]; exact Sl.of_own o12
            obtain ⟨a12, c12, rfl⟩ := b12.cells
            go_meet
            have q11 := f11.blk q10'.out (fun e => by cases e; omega)
            have fall : Fr none' W w12 := (GW.trans f11 (fun i hi hv => by cases hv; omega)).trans f12 (fun i hi hv => by have := hv8lo.out i hv; omega)
            exact ⟨_, _, _, _, _, _, _, _, _, rfl, rfl, b12, (h11.keepV f12).bare, f12.blk q11 (fun e => by have := hv8h.out _ e; omega), (t0'.keep f11 (fun b hb hS => (h10.noByte b hb hS).1)).keepOff (V := fun i => v8.ownBlock = some i) (fun a n c he _ hv => by cases he; have := hv8h.out _ hv; simp at this) f12, (t1'.keep f11 (fun b hb hS => (h10.noByte b hb hS).1)).keepOff (V := fun i => v8.ownBlock = some i) (fun a n c he _ hv => by cases he; have := hv8h.out _ hv; simp at this; omega) f12, fall⟩
          · go_wp2_with fail
            refine (slot_to h10 0 hB10 (by omega) ⟨A, T, [2, 2], true, some n⟩ 130 (by
              unfold DSt.slots DSt.slot DSt.laid
              rw [if_neg (by simp), if_neg (by simp), if_neg (by omega)]
              rw [hT'.out]
              rfl)).mono ?_
            rintro e w11 ⟨rfl, h11, f11⟩
            have q11 := f11.blk q10'.out (fun e => by cases e; omega)
            have cq := cell_of_blk (o := 0) q11 rfl
            have zq := free_of_blk (o := 0) q11
            have hT11 := Sl.of_own o10'.out
            obtain ⟨a12, c12, rfl⟩ := Bytes.cells (w := w10) (L := T) hT11
            have hb11 : Bytes w11 (.slice a12 T.length c12) T := Bytes.keep (w := w10) hT11 f11 (fun b hb hS => (h10.noByte b hb hS).1)
            have hA10 : Bytes w10 v8 A := Sl.of_own o9''.out
            have hA11 : Bytes w11 v8 A := hA10.keep f11 (fun b hb hS => (h10.noByte b hb hS).1)
            have hn := noByte_arr q11 (fun o v h => by
              match o, h with
              | 0, h => cases h; exact ⟨_, _, _, rfl⟩
              | 1, h => cases h; exact ⟨_, _, _, rfl⟩
              | o + 2, h => simp at h)
            have t1k := t1'.keep f11 (fun b hb hS => (h10.noByte b hb hS).1)
            have q11h := Lib.hid q11
            have hnh := Lib.hid hn
            obtain ⟨a8, c8, rfl⟩ := hA11.cells
            clear q11 hn hT11 hA10
            go_wp2_with fail
            go_meet
            have fs : Fr (one (w8.heap.size + 1 + 1)) w11 (w11.setCell ⟨w8.heap.size + 1 + 1, 0, none⟩ (.slice a12 T.length c12)) := (Fr.refl _ _).set1 _
            have nbs : ∀ b', b' < w11.heap.size → one (w8.heap.size + 1 + 1) b' → ∀ o x, w11.cell? ⟨b', o, none⟩ ≠ some (.int .u8 x) := fun b' hb hS => (hnh.out b' hb hS).1
            exact ⟨A, T, [2, 2], _, _, _, _, _, _, rfl, rfl, hA11.keep fs nbs, (h11.keep fs (fun e => by cases e; omega) hnh.out).bare, by rw [blk_set_at q11h.out rfl]; rfl, hb11.keep fs nbs, t1k.keep fs nbs, (GW.trans f11 (fun i hi hv => by cases hv; omega)).setCell _ _ (.inl (by show W.heap.size ≤ w8.heap.size + 1 + 1; omega))⟩
          · go_wp2_with fail
            refine (slot_to h10 1 hB10 (by omega) ⟨A, [1], T, true, some n⟩ 130 (by
              unfold DSt.slots DSt.slot DSt.laid
              rw [if_neg (by simp), if_neg (by simp), if_neg (by omega)]
              rw [hT'.out]
              rfl)).mono ?_
            rintro e w11 ⟨rfl, h11, f11⟩
            have q11 := f11.blk q10'.out (fun e => by cases e; omega)
            have cq := cell_of_blk (o := 1) q11 rfl
            have zq := free_of_blk (o := 1) q11
            have hT11 := Sl.of_own o10'.out
            obtain ⟨a12, c12, rfl⟩ := Bytes.cells (w := w10) (L := T) hT11
            have hb11 : Bytes w11 (.slice a12 T.length c12) T := Bytes.keep (w := w10) hT11 f11 (fun b hb hS => (h10.noByte b hb hS).1)
            have hA10 : Bytes w10 v8 A := Sl.of_own o9''.out
            have hA11 : Bytes w11 v8 A := hA10.keep f11 (fun b hb hS => (h10.noByte b hb hS).1)
            have hn := noByte_arr q11 (fun o v h => by
              match o, h with
              | 0, h => cases h; exact ⟨_, _, _, rfl⟩
              | 1, h => cases h; exact ⟨_, _, _, rfl⟩
              | o + 2, h => simp at h)
            have t1k := t0'.keep f11 (fun b hb hS => (h10.noByte b hb hS).1)
            have q11h := Lib.hid q11
            have hnh := Lib.hid hn
            obtain ⟨a8, c8, rfl⟩ := hA11.cells
            clear q11 hn hT11 hA10
            go_wp2_with fail
            go_meet
            have fs : Fr (one (w8.heap.size + 1 + 1)) w11 (w11.setCell ⟨w8.heap.size + 1 + 1, 1, none⟩ (.slice a12 T.length c12)) := (Fr.refl _ _).set1 _
            have nbs : ∀ b', b' < w11.heap.size → one (w8.heap.size + 1 + 1) b' → ∀ o x, w11.cell? ⟨b', o, none⟩ ≠ some (.int .u8 x) := fun b' hb hS => (hnh.out b' hb hS).1
            exact ⟨A, [1], T, _, _, _, _, _, _, rfl, rfl, hA11.keep fs nbs, (h11.keep fs (fun e => by cases e; omega) hnh.out).bare, by rw [blk_set_at q11h.out rfl]; rfl, t1k.keep fs nbs, hb11.keep fs nbs, (GW.trans f11 (fun i hi hv => by cases hv; omega)).setCell _ _ (.inl (by show W.heap.size ≤ w8.heap.size + 1 + 1; omega))⟩
        case rest =>
          obtain ⟨w20, rfl⟩ : ∃ w20, w20 = wc := ⟨_, rfl⟩
          obtain ⟨L, S0, S1, aL, mL, cL, y0, y1, arm, rfl, rfl, hL, hD, q20, hu0, hu1, F20⟩ := hcut
          have hL' := Lib.hid hL
          clear h10 hB10 o10' t0' t1' o9'' q10' GW hL
          go_wp2_with fail
          refine (slots_any _ _ _ hD).mono ?_
          rintro e w21 ⟨v0, v1, rfl, o0, o1, -, f21⟩
          obtain ⟨a0, k0, rfl⟩ := Bytes.cells (w := w21) (L := S0) (Sl.of_own o0)
          obtain ⟨a1, k1, rfl⟩ := Bytes.cells (w := w21) (L := S1) (Sl.of_own o1)
          have ho0 := Lib.hid o0
          have ho1 := Lib.hid o1
          have q21 := Lib.hid (f21.blk q20 id)
          have hD21 := hD.keep0 f21
          have hL21 := hL'.out.keep0 f21
          have hu021 := hu0.keep0 f21
          have hu121 := hu1.keep0 f21
          have F21 := F20.trans f21 (fun _ _ h => h)
          clear o0 o1 hD hL' hu0 hu1 q20 F20 f21
          go_upto_region 15 with fail
          obtain ⟨w22, hw22⟩ : ∃ w22, w22 = w21.alloc (Obj.cells #[Value.slice a0 S0.length k0, Value.slice a1 S1.length k1] 34) := ⟨_, rfl⟩
          have f22 : Fr none' w21 w22 := by rw [hw22]; exact (Fr.refl _ _).alloc _
          have r22 : w22.heap[w21.heap.size]? = some (.cells #[Value.slice a0 S0.length k0, Value.slice a1 S1.length k1] 34 (0, 0)) := by rw [hw22]; exact blk_alloc_new rfl
          rw [← hw22]
          clear hw22
          have q22 := f22.blk q21.out id
          have hD22 := hD21.keep0 f22
          have hL22 := hL21.keep0 f22
          have b0 : Bytes w22 (Value.slice a0 S0.length k0) S0 := Bytes.keep0 (w := w21) (Sl.of_own ho0.out) f22
          have b1 : Bytes w22 (Value.slice a1 S1.length k1) S1 := Bytes.keep0 (w := w21) (Sl.of_own ho1.out) f22
          have hu022 := hu021.keep0 f22
          have hu122 := hu121.keep0 f22
          have F22 := F21.trans f22 (fun _ _ h => h)
          have q22' := Lib.hid q22
          have r22' := Lib.hid r22
          clear ho0 ho1 q21 hD21 hL21 hu021 hu121 F21 f22 q22 r22
          go_wp2_with fail
          refine (log_to hD22).mono ?_
          rintro e w23 ⟨v23, rfl, b23, h23, f23⟩
          go_wp2_with fail
          refine (eqBytes_any _ _ L L _ b23 (hL22.keep0 f23)).mono ?_
          rintro e w' ⟨rfl, rfl⟩
          rw [show (L == L) = true by simp]
          have q23 := f23.blk q22'.out id
          have r23 := f23.blk r22'.out id
          have z0 := cell_of_blk (o := 0) q23 rfl
          have z1 := cell_of_blk (o := 1) q23 rfl
          have y0' := cell_of_blk (o := 0) r23 rfl
          have y1' := cell_of_blk (o := 1) r23 rfl
          clear q23 r23
          go_wp2_with fail
          refine (eqBytes_any _ _ S0 S0 _ (b0.keep0 f23) (hu022.keep0 f23)).mono ?_
          rintro e w' ⟨rfl, rfl⟩
          rw [show (S0 == S0) = true by simp]
          go_wp2_with fail
          refine (eqBytes_any _ _ S1 S1 _ (b1.keep0 f23) (hu122.keep0 f23)).mono ?_
          rintro e w' ⟨rfl, rfl⟩
          rw [show (S1 == S1) = true by simp]
          have hL23 := hL22.keep0 f23
          have F23 := F22.trans f23 (fun _ _ h => h)
          clear b0 b1 hu022 hu122 z0 z1 y0' y1' q22' r22' F22 f23 hL22 b23 hD22
          go_wp2_with fail
          refine (dead_any _ _ _ h23).mono ?_
          rintro e w' ⟨rfl, rfl⟩
          go_wp2_with fail
          refine (arm_to h23 0 _ 130 (by decide) rfl).mono ?_
          rintro e w24 ⟨rfl, h24, f24⟩
          go_wp2_with fail
          refine (trim_to h24 0 _ 130 rfl).mono ?_
          rintro e w25 ⟨rfl, h25, f25⟩
          go_wp2_with fail
          refine (cut_to h25 0 _ 130 rfl).mono ?_
          rintro e w26 ⟨rfl, h26, f26⟩
          go_wp2_with fail
          refine (slot_to h26 0 (Bytes.nil _) (by simp) _ 130 rfl).mono ?_
          rintro e w27 ⟨rfl, h27, f27⟩
          go_wp2_with fail
          refine (append_to h27 (Bytes.nil _) (by simp) _ 130 rfl).mono ?_
          rintro e w28 ⟨rfl, h28, f28⟩
          go_wp2_with fail
          refine (revive_any _ _ _ h28).mono ?_
          rintro e w29 ⟨rfl, h29, f29⟩
          have hll : L.length ≤ 1048576 := by obtain ⟨_, _, _, _, _, _, _, _, _, h, _⟩ := h29; exact h
          go_wp2_with fail
          refine (append_to h29 (Bytes.nil _) (by simp) ⟨L, S0, S1, false, none⟩ 0 (by
            unfold DSt.append DSt.revived DSt.laid
            rw [if_neg (by simp), if_neg (by simp; omega)]
            simp [deadNo])).mono ?_
          rintro e w30 ⟨rfl, h30, f30⟩
          go_wp2_with fail
          refine (log_to h30).mono ?_
          rintro e w31 ⟨v31, rfl, b31, h31, f31⟩
          have G : Fr (one b) w23 w31 := ((((((((f24.trans f25 (fun _ _ h => h)).trans f26 (fun _ _ h => h)).trans f27 (fun _ _ h => h)).trans f28 (fun _ _ h => h)).trans f29 (fun _ _ h => h)).trans f30 (fun _ _ h => h)).trans f31 (fun _ _ h => h.elim)))
          have hL31 := hL23.keep G (fun b hb hS => (h23.noByte b hb hS).1)
          have F31 : Fr none' W w31 := F23.trans G (fun i hi hv => by cases hv; omega)
          clear f24 f25 f26 f27 f28 f29 f30 f31 h23 h24 h25 h26 h27 h28 h29 h30
          go_wp2_with fail
          refine (eqBytes_any _ _ L L _ b31 hL31).mono ?_
          rintro e w' ⟨rfl, rfl⟩
          rw [show (L == L) = true by simp]
          go_wp2_with fail
          refine (works_any _).mono ?_
          rintro e w32 ⟨rfl, f32⟩
          go_wp2_with fail
          go_ret
          exact ⟨rfl, (F31.trans f32 (fun _ _ h => h)).below (Nat.le_refl _) (fun _ h => h.elim)⟩

end Go.Proofs.Ytnflppgmccddoaa
