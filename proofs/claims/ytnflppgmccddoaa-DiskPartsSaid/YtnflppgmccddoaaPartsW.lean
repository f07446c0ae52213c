/-
  The statements' walks: DiskParts.
-/
import Derived.Test.YtnflppgmccddoaaW
import Derived.RegionTactic
import Derived.Deep.DeepCutAuto
import Derived.Deep.RegionHeld3
namespace Go.Proofs.Ytnflppgmccddoaa
set_option linter.unusedVariables false
open Go.RowKit

theorem new_full {w : World} {v : Value} {L : List UInt8} (hv : Bytes w v L) (hL : L.length ≤ 300) {b : Nat} (h : Dk none' w b ⟨[], [], [], false, none⟩) :
    Calls Try.prog 24 #[.pointer (some ⟨b, 0, none⟩), v] w fun e w' => e = .returned (.int .i64 0) ∧ Dk none' w' b ⟨L, [], [], false, none⟩ ∧ Fr (one b) w w' :=
  append_to h hv (by omega) ⟨L, [], [], false, none⟩ 0 (by
    unfold DSt.append
    rw [if_neg (by simp), if_neg (by simp; omega)]
    rfl)

/-- What stands ahead of the last comparison. -/
structure PK (W : World) (g b0 b1 b2 b3 n m : Nat) (vL : Value) (L : List UInt8) (w : World) : Prop where
  k0 : Dk none' w b0 ⟨(L.drop n).drop m, [], [], false, none⟩
  k1 : Dk none' w b1 ⟨L.drop (n + m), [], [], false, none⟩
  k2 : Dk none' w b2 ⟨(L.drop n).take m, [], [], false, none⟩
  k3 : Dk none' w b3 ⟨(L.take (n + m)).drop n, [], [], false, none⟩
  row : w.heap[g]? = some (.cells #[.pointer (some ⟨b0, 0, none⟩), .pointer (some ⟨b1, 0, none⟩), .pointer (some ⟨b2, 0, none⟩), .pointer (some ⟨b3, 0, none⟩)] 47 (0, 0))
  list : Bytes w vL L
  fr : Fr none' W w
theorem PK.keep0 {W : World} {g b0 b1 b2 b3 n m : Nat} {vL : Value} {L : List UInt8} {w w' : World} (h : PK W g b0 b1 b2 b3 n m vL L w) (f : Fr none' w w') : PK W g b0 b1 b2 b3 n m vL L w' :=
  ⟨h.k0.keep0 f, h.k1.keep0 f, h.k2.keep0 f, h.k3.keep0 f, f.blk h.row id, h.list.keep0 f, h.fr.trans f (fun _ _ h => h)⟩
theorem PK.log {W : World} {g b0 b1 b2 b3 n m : Nat} {vL : Value} {L : List UInt8} {w : World} (h : PK W g b0 b1 b2 b3 n m vL L w) {b : Nat} {s : DSt} (hk : Dk none' w b s) :
    Calls Try.prog 14 #[.pointer (some ⟨b, 0, none⟩)] w fun e w' => ∃ v, e = .returned v ∧ Bytes w' v s.log ∧ PK W g b0 b1 b2 b3 n m vL L w' ∧ Fr none' w w' := by
  refine (log_to hk).mono ?_
  rintro e w' ⟨v, rfl, hb, _, f⟩
  exact ⟨v, rfl, hb, h.keep0 f, f⟩

theorem Bytes.dropMap {w : World} {ao : Option Addr} {n cap m : Nat} {L : List UInt8} (h : Bytes w (.slice ao n cap) L) (hm : m ≤ n) (hc : ¬ cap = m) : Bytes w (.slice (Option.map (fun x => x.add m) ao) (n - m) (cap - m)) (L.drop m) := by
  obtain ⟨_, f1, f2⟩ := h.facts
  refine h.drop m hm _ (fun h => by rw [h]; rfl) (fun g off _ h => by rw [h]; simp [Addr.add]) (fun h => ?_)
  cases ao with
  | none => have := f2 rfl; omega
  | some a => cases h
theorem Bytes.dropAll {w : World} {ao : Option Addr} {n cap m : Nat} {L : List UInt8} (h : Bytes w (.slice ao n cap) L) (hm : m ≤ n) (hc : cap = m) : Bytes w (.slice ao (n - m) 0) (L.drop m) := by
  obtain ⟨e, f1, f2⟩ := h.facts
  have h0 : n - m = 0 := by omega
  rw [List.drop_eq_nil_of_le (by omega), h0]
  exact Bytes.empty _ _ _ (fun _ => rfl)
theorem Bytes.mid {w : World} {ao : Option Addr} {k cap n m : Nat} {L : List UInt8} (h : Bytes w (.slice ao k cap) L) (hm : n + m ≤ k) (hc : ¬ cap = n) : Bytes w (.slice (Option.map (fun x => x.add n) ao) m (cap - n)) ((L.take (n + m)).drop n) := by
  have := (h.take rfl (n + m) hm).dropMap (m := n) (by omega) hc
  rwa [Nat.add_sub_cancel_left] at this
theorem Bytes.midAll {w : World} {ao : Option Addr} {k cap n m : Nat} {L : List UInt8} (h : Bytes w (.slice ao k cap) L) (hm : n + m ≤ k) (hc : cap = n) : Bytes w (.slice ao m 0) ((L.take (n + m)).drop n) := by
  have := (h.take rfl (n + m) hm).dropAll (m := n) (by omega) hc
  rwa [Nat.add_sub_cancel_left] at this
theorem drop_take_same {X : Type} (L : List X) (n m : Nat) : (L.drop n).take m = (L.take (n + m)).drop n := by rw [List.drop_take, Nat.add_sub_cancel_left]
/-- A slice behind its first bytes, as one step of the walk, whatever room it has. -/
theorem slice_l_ex {P : Program} (t : TypeId) (ht : P.underlying t = some (.slice (P.elem t))) (h1 : ∀ w, (sizeOf (P.elem t)).run P w = .ok 1 w) (ao : Option Addr) (n cap : Nat) (L : List UInt8) (w0 : World) (hb : Bytes w0 (.slice ao n cap) L) (lo : Int) (h0 : 0 ≤ lo) (hn : lo ≤ n) :
    ∃ a' c', (∀ w, (Instr.slice t (.slice ao n cap) (some (.int .i64 lo)) none none).run P w = .ok (.slice a' (n - lo.toNat) c') w) ∧ ∀ w, Bytes w (.slice ao n cap) L → Bytes w (.slice a' (n - lo.toNat) c') (L.drop lo.toNat) := by
  rcases (show cap = lo.toNat ∨ ¬ cap = lo.toNat by omega) with hc | hc
  · refine ⟨ao, 0, fun w => ?_, fun w hb => hb.dropAll (by omega) hc⟩
    rw [run_slice_l w t ao n cap ht .i64 lo h0 hn, h1]
    simp [Result.andThen, sliced, hc]
  · refine ⟨_, _, fun w => ?_, fun w hb => hb.dropMap (m := lo.toNat) (by omega) hc⟩
    rw [run_slice_l w t ao n cap ht .i64 lo h0 hn, h1]
    simp [Result.andThen, sliced, hc]
theorem slice_lh_ex {P : Program} (t : TypeId) (ht : P.underlying t = some (.slice (P.elem t))) (h1 : ∀ w, (sizeOf (P.elem t)).run P w = .ok 1 w) (ao : Option Addr) (k cap : Nat) (L : List UInt8) (w0 : World) (hb : Bytes w0 (.slice ao k cap) L) (lo hi : Int) (h0 : 0 ≤ lo) (hn : lo ≤ hi) (hk : hi ≤ k) :
    ∃ a' c', (∀ w, (Instr.slice t (.slice ao k cap) (some (.int .i64 lo)) (some (.int .i64 hi)) none).run P w = .ok (.slice a' (hi.toNat - lo.toNat) c') w) ∧ ∀ w, Bytes w (.slice ao k cap) L → Bytes w (.slice a' (hi.toNat - lo.toNat) c') ((L.take hi.toNat).drop lo.toNat) := by
  have hkc := hb.facts.2.1
  rcases (show cap = lo.toNat ∨ ¬ cap = lo.toNat by omega) with hc | hc
  · refine ⟨ao, 0, fun w => ?_, fun w hb => (hb.take rfl hi.toNat (by omega)).dropAll (by omega) hc⟩
    rw [run_slice_lh w t ao k cap ht .i64 .i64 lo hi h0 hn (by omega), h1]
    simp [Result.andThen, sliced, hc]
  · refine ⟨_, _, fun w => ?_, fun w hb => (hb.take rfl hi.toNat (by omega)).dropMap (m := lo.toNat) (by omega) hc⟩
    rw [run_slice_lh w t ao k cap ht .i64 .i64 lo hi h0 hn (by omega), h1]
    simp [Result.andThen, sliced, hc]
theorem eq_same {w : World} {u v : Value} {K L : List UInt8} (h : Bytes w u K) (h' : Bytes w v L) (he : K = L) : Calls Try.prog 19 #[u, v] w fun e w' => e = .returned (.bool true) ∧ w = w' := by
  refine (eqBytes_any u v K L w h h').mono ?_
  rintro e w' ⟨rfl, rfl⟩
  subst he
  simp

def PCut1 (W : World) (x0 x1 : Int) (s0 : Value) (w : World) : Prop :=
  (∃ L a c, s0 = .slice a L.length c ∧ Bytes w s0 L ∧ L.length ≤ 300) ∧ Fr none' W w ∧ w.cell? ⟨W.heap.size, 0, none⟩ = some (.int .i64 x0) ∧ w.cell? ⟨W.heap.size, 1, none⟩ = some (.int .i64 x1)

set_option maxRecDepth 100000 in
set_option maxHeartbeats 4000000 in
theorem parts_walk (va : Value) (LA : List UInt8) (x0 x1 : Int) (W : World) (ha : Bytes W va LA) (hla : LA.length ≤ 9223372036854775807) :
    Calls Try.prog 6 #[va, .agg #[.int .i64 x0, .int .i64 x1]] W fun e w' => e = .returned (.bool true) ∧ Below W.heap.size W w' := by
  obtain ⟨aA, cA, rfl⟩ := ha.cells
  have fa1 := ha.facts.2.1
  have F0 : Fr none' W (W.alloc (.cells #[.int .i64 x0, .int .i64 x1] 44)) := (Fr.refl _ _).alloc _
  have c0 : (W.alloc (.cells #[.int .i64 x0, .int .i64 x1] 44)).cell? ⟨W.heap.size, 0, none⟩ = some (.int .i64 x0) := by simp
  have c1 : (W.alloc (.cells #[.int .i64 x0, .int .i64 x1] 44)).cell? ⟨W.heap.size, 1, none⟩ = some (.int .i64 x1) := by simp
  have F0' := Lib.hid (And.intro F0 (And.intro c0 c1))
  clear F0 c0 c1
  go_enter Try.func6, Try.ntmps6
  go_upto_region 1 with fail
  go_cut [0] (fun s0 w => PCut1 W x0 x1 s0 w)
  case first =>
    obtain ⟨F0, c0, c1⟩ := F0'.out
    have F := Lib.hid F0
    have C := Lib.hid (And.intro c0 c1)
    clear F0 c0 c1
    rcases (show LA.length ≤ 300 ∨ 300 < LA.length by omega) with hA | hA
    · go_wp2_with fail
      go_meet
      exact ⟨⟨LA, _, _, rfl, ha.keep0 F.out, hA⟩, F.out, C.out⟩
    · go_wp2_with fail
      go_meet
      have e : (LA.take 300).length = 300 := by simp; omega
      refine ⟨⟨LA.take 300, _, _, by rw [e], (ha.take rfl 300 (by omega)).keep0 F.out, by omega⟩, F.out, C.out⟩
  case rest =>
    obtain ⟨w1, rfl⟩ : ∃ w1, w1 = wc := ⟨_, rfl⟩
    obtain ⟨⟨L, aL, cL, rfl, hL, hLen⟩, F1, c0, c1⟩ := hcut
    have fL := hL.facts.2.1
    clear ha fa1 F0' hla
    have hw1 : IntKind.i64.wrap ((L.length : Int) + 1) = (L.length : Int) + 1 := by rw [IntKind.wrap_i64]; omega
    go_wp2_with fail
    refine (bring_ex _ _ _ (by omega) (by omega)).mono ?_
    rintro e w' ⟨n, rfl, n0, n1, -, rfl⟩
    obtain ⟨n, rfl⟩ := Int.eq_ofNat_of_zero_le n0
    clear hw1 n0
    have hw1 : IntKind.i64.wrap ((L.length : Int) - (n : Int)) = (L.length : Int) - n := by rw [IntKind.wrap_i64]; omega
    have hw2 : IntKind.i64.wrap ((L.length : Int) - (n : Int) + 1) = (L.length : Int) - n + 1 := by rw [IntKind.wrap_i64]; omega
    go_wp2_with fail
    refine (bring_ex _ _ _ (by omega) (by omega)).mono ?_
    rintro e w' ⟨m, rfl, m0, m1, -, rfl⟩
    obtain ⟨m, rfl⟩ := Int.eq_ofNat_of_zero_le m0
    clear hw1 hw2 m0 c0 c1
    have hnm : n + m ≤ L.length := by omega
    clear n1 m1
    go_wp2_with fail
    obtain ⟨w2, hw2⟩ : ∃ w2, w2 = w1.alloc (Obj.cells #[.pointer none, .pointer none, .pointer none, .pointer none] 47) := ⟨_, rfl⟩
    have f2 : Fr none' w1 w2 := by rw [hw2]; exact (Fr.refl _ _).alloc _
    have q2 : w2.heap[w1.heap.size]? = some (.cells #[.pointer none, .pointer none, .pointer none, .pointer none] 47 (0, 0)) := by rw [hw2]; exact blk_alloc_new rfl
    rw [← hw2]
    clear hw2
    have g0 : W.heap.size ≤ w1.heap.size := F1.size
    have F2 := F1.trans f2 (fun _ _ h => h)
    have hL2 := hL.keep0 f2
    obtain ⟨g, hg⟩ : ∃ g, g = w1.heap.size := ⟨_, rfl⟩
    rw [← hg] at g0 q2 ⊢
    clear hg f2 F1 hL
    refine wp_loop_rounds 5 ?_
    obtain ⟨s0, rfl⟩ : ∃ s0, s0 = w2 := ⟨_, rfl⟩
    have hg0 : g < s0.heap.size := lt_of_blk q2
    have G0l : W.heap.size ≤ s0.heap.size := F2.size
    have Q0 := Lib.hid q2
    have hL0 := Lib.hid hL2
    have G0 := Lib.hid F2
    clear q2 hL2 F2
    rw [rounds_succ]
    go_wp2_with fail
    refine (dnew_any (V := none') _).mono ?_
    rintro e t0 ⟨b0, rfl, hb0, h0, f0⟩
    have q := f0.blk Q0.out id
    have ci := cell_of_blk (o := 0) q rfl
    have zi := free_of_blk (o := 0) q
    have sz0 := f0.size
    have nb : NoByte t0 (one g) := noByte_of q (fun v hv k x => by simp at hv; first | (rcases hv with h | h | h | h <;> rw [h] <;> simp; done) | (rcases hv with h | h | h <;> rw [h] <;> simp; done) | (rcases hv with h | h <;> rw [h] <;> simp; done) | (rw [hv]; simp))
    have fs : Fr (one g) t0 (t0.setCell ⟨g, 0, none⟩ (.pointer (some ⟨b0, 0, none⟩))) := (Fr.refl _ _).set1 _
    have Y0 := Lib.hid (show (t0.setCell ⟨g, 0, none⟩ (.pointer (some ⟨b0, 0, none⟩))).heap[g]? = some (.cells #[.pointer (some ⟨b0, 0, none⟩), .pointer none, .pointer none, .pointer none] 47 (0, 0)) from by rw [blk_set_at q rfl]; rfl)
    have H0 := Lib.hid (h0.keep fs (fun e => by cases e; omega) nb)
    have hLs0 := Lib.hid ((hL0.out.keep0 f0).keep fs (fun b hb hS => (nb b hb hS).1))
    have Gs0 := Lib.hid ((G0.out.trans f0 (fun _ _ h => h)).setCell ⟨g, 0, none⟩ (.pointer (some ⟨b0, 0, none⟩)) (.inl g0))
    clear q nb fs h0 f0
    go_wp2_with fail
    refine (new_full hLs0.out hLen H0.out).mono ?_
    rintro e s1 ⟨rfl, k, fa⟩
    have hbs0 := k.lt
    have hsz0 := fa.size
    simp only [World.size_setCell] at hsz0
    have D0_1 := Lib.hid k
    have hL1 := Lib.hid (hLs0.out.keep fa (fun b hb hS => (H0.out.noByte b hb hS).1))
    have Q1 := Lib.hid (fa.blk Y0.out (fun e => by cases e; omega))
    have G1 := Lib.hid (Gs0.out.trans fa (fun i hi e => by cases e; have := G0.out.size; omega))
    have cj := cell_of_blk (o := 0) Q1.out rfl
    clear fa k ci zi hLs0 H0 Y0 Gs0 Q0 hL0 G0
    go_wp2_with fail
    clear cj
    rw [rounds_succ]
    go_wp2_with fail
    refine (dnew_any (V := none') _).mono ?_
    rintro e t1 ⟨b1, rfl, hb1, h1, f1⟩
    have q := f1.blk Q1.out id
    have ci := cell_of_blk (o := 1) q rfl
    have zi := free_of_blk (o := 1) q
    have sz1 := f1.size
    have nb : NoByte t1 (one g) := noByte_of q (fun v hv k x => by simp at hv; first | (rcases hv with h | h | h | h <;> rw [h] <;> simp; done) | (rcases hv with h | h | h <;> rw [h] <;> simp; done) | (rcases hv with h | h <;> rw [h] <;> simp; done) | (rw [hv]; simp))
    have fs : Fr (one g) t1 (t1.setCell ⟨g, 1, none⟩ (.pointer (some ⟨b1, 0, none⟩))) := (Fr.refl _ _).set1 _
    have Y1 := Lib.hid (show (t1.setCell ⟨g, 1, none⟩ (.pointer (some ⟨b1, 0, none⟩))).heap[g]? = some (.cells #[.pointer (some ⟨b0, 0, none⟩), .pointer (some ⟨b1, 0, none⟩), .pointer none, .pointer none] 47 (0, 0)) from by rw [blk_set_at q rfl]; rfl)
    have H1 := Lib.hid (h1.keep fs (fun e => by cases e; omega) nb)
    have hLs1 := Lib.hid ((hL1.out.keep0 f1).keep fs (fun b hb hS => (nb b hb hS).1))
    have Gs1 := Lib.hid ((G1.out.trans f1 (fun _ _ h => h)).setCell ⟨g, 1, none⟩ (.pointer (some ⟨b1, 0, none⟩)) (.inl g0))
    have E0_1 := Lib.hid ((D0_1.out.keep0 f1).keep fs (fun e => by cases e; omega) nb)
    clear q nb fs h1 f1
    go_wp2_with fail
    refine (new_full hLs1.out hLen H1.out).mono ?_
    rintro e s2 ⟨rfl, k, fa⟩
    have hbs1 := k.lt
    have hsz1 := fa.size
    simp only [World.size_setCell] at hsz1
    have D1_2 := Lib.hid k
    have hL2 := Lib.hid (hLs1.out.keep fa (fun b hb hS => (H1.out.noByte b hb hS).1))
    have Q2 := Lib.hid (fa.blk Y1.out (fun e => by cases e; omega))
    have G2 := Lib.hid (Gs1.out.trans fa (fun i hi e => by cases e; have := G1.out.size; omega))
    have D0_2 := Lib.hid (E0_1.out.keep fa (fun e => by cases e; omega) H1.out.noByte)
    have cj := cell_of_blk (o := 1) Q2.out rfl
    clear fa k ci zi hLs1 H1 Y1 Gs1 Q1 hL1 G1 D0_1 E0_1
    go_wp2_with fail
    clear cj
    rw [rounds_succ]
    go_wp2_with fail
    refine (dnew_any (V := none') _).mono ?_
    rintro e t2 ⟨b2, rfl, hb2, h2, f2⟩
    have q := f2.blk Q2.out id
    have ci := cell_of_blk (o := 2) q rfl
    have zi := free_of_blk (o := 2) q
    have sz2 := f2.size
    have nb : NoByte t2 (one g) := noByte_of q (fun v hv k x => by simp at hv; first | (rcases hv with h | h | h | h <;> rw [h] <;> simp; done) | (rcases hv with h | h | h <;> rw [h] <;> simp; done) | (rcases hv with h | h <;> rw [h] <;> simp; done) | (rw [hv]; simp))
    have fs : Fr (one g) t2 (t2.setCell ⟨g, 2, none⟩ (.pointer (some ⟨b2, 0, none⟩))) := (Fr.refl _ _).set1 _
    have Y2 := Lib.hid (show (t2.setCell ⟨g, 2, none⟩ (.pointer (some ⟨b2, 0, none⟩))).heap[g]? = some (.cells #[.pointer (some ⟨b0, 0, none⟩), .pointer (some ⟨b1, 0, none⟩), .pointer (some ⟨b2, 0, none⟩), .pointer none] 47 (0, 0)) from by rw [blk_set_at q rfl]; rfl)
    have H2 := Lib.hid (h2.keep fs (fun e => by cases e; omega) nb)
    have hLs2 := Lib.hid ((hL2.out.keep0 f2).keep fs (fun b hb hS => (nb b hb hS).1))
    have Gs2 := Lib.hid ((G2.out.trans f2 (fun _ _ h => h)).setCell ⟨g, 2, none⟩ (.pointer (some ⟨b2, 0, none⟩)) (.inl g0))
    have E0_2 := Lib.hid ((D0_2.out.keep0 f2).keep fs (fun e => by cases e; omega) nb)
    have E1_2 := Lib.hid ((D1_2.out.keep0 f2).keep fs (fun e => by cases e; omega) nb)
    clear q nb fs h2 f2
    go_wp2_with fail
    refine (new_full hLs2.out hLen H2.out).mono ?_
    rintro e s3 ⟨rfl, k, fa⟩
    have hbs2 := k.lt
    have hsz2 := fa.size
    simp only [World.size_setCell] at hsz2
    have D2_3 := Lib.hid k
    have hL3 := Lib.hid (hLs2.out.keep fa (fun b hb hS => (H2.out.noByte b hb hS).1))
    have Q3 := Lib.hid (fa.blk Y2.out (fun e => by cases e; omega))
    have G3 := Lib.hid (Gs2.out.trans fa (fun i hi e => by cases e; have := G2.out.size; omega))
    have D0_3 := Lib.hid (E0_2.out.keep fa (fun e => by cases e; omega) H2.out.noByte)
    have D1_3 := Lib.hid (E1_2.out.keep fa (fun e => by cases e; omega) H2.out.noByte)
    have cj := cell_of_blk (o := 2) Q3.out rfl
    clear fa k ci zi hLs2 H2 Y2 Gs2 Q2 hL2 G2 D0_2 E0_2 D1_2 E1_2
    go_wp2_with fail
    clear cj
    rw [rounds_succ]
    go_wp2_with fail
    refine (dnew_any (V := none') _).mono ?_
    rintro e t3 ⟨b3, rfl, hb3, h3, f3⟩
    have q := f3.blk Q3.out id
    have ci := cell_of_blk (o := 3) q rfl
    have zi := free_of_blk (o := 3) q
    have sz3 := f3.size
    have nb : NoByte t3 (one g) := noByte_of q (fun v hv k x => by simp at hv; first | (rcases hv with h | h | h | h <;> rw [h] <;> simp; done) | (rcases hv with h | h | h <;> rw [h] <;> simp; done) | (rcases hv with h | h <;> rw [h] <;> simp; done) | (rw [hv]; simp))
    have fs : Fr (one g) t3 (t3.setCell ⟨g, 3, none⟩ (.pointer (some ⟨b3, 0, none⟩))) := (Fr.refl _ _).set1 _
    have Y3 := Lib.hid (show (t3.setCell ⟨g, 3, none⟩ (.pointer (some ⟨b3, 0, none⟩))).heap[g]? = some (.cells #[.pointer (some ⟨b0, 0, none⟩), .pointer (some ⟨b1, 0, none⟩), .pointer (some ⟨b2, 0, none⟩), .pointer (some ⟨b3, 0, none⟩)] 47 (0, 0)) from by rw [blk_set_at q rfl]; rfl)
    have H3 := Lib.hid (h3.keep fs (fun e => by cases e; omega) nb)
    have hLs3 := Lib.hid ((hL3.out.keep0 f3).keep fs (fun b hb hS => (nb b hb hS).1))
    have Gs3 := Lib.hid ((G3.out.trans f3 (fun _ _ h => h)).setCell ⟨g, 3, none⟩ (.pointer (some ⟨b3, 0, none⟩)) (.inl g0))
    have E0_3 := Lib.hid ((D0_3.out.keep0 f3).keep fs (fun e => by cases e; omega) nb)
    have E1_3 := Lib.hid ((D1_3.out.keep0 f3).keep fs (fun e => by cases e; omega) nb)
    have E2_3 := Lib.hid ((D2_3.out.keep0 f3).keep fs (fun e => by cases e; omega) nb)
    clear q nb fs h3 f3
    go_wp2_with fail
    refine (new_full hLs3.out hLen H3.out).mono ?_
    rintro e s4 ⟨rfl, k, fa⟩
    have hbs3 := k.lt
    have hsz3 := fa.size
    simp only [World.size_setCell] at hsz3
    have D3_4 := Lib.hid k
    have hL4 := Lib.hid (hLs3.out.keep fa (fun b hb hS => (H3.out.noByte b hb hS).1))
    have Q4 := Lib.hid (fa.blk Y3.out (fun e => by cases e; omega))
    have G4 := Lib.hid (Gs3.out.trans fa (fun i hi e => by cases e; have := G3.out.size; omega))
    have D0_4 := Lib.hid (E0_3.out.keep fa (fun e => by cases e; omega) H3.out.noByte)
    have D1_4 := Lib.hid (E1_3.out.keep fa (fun e => by cases e; omega) H3.out.noByte)
    have D2_4 := Lib.hid (E2_3.out.keep fa (fun e => by cases e; omega) H3.out.noByte)
    have cj := cell_of_blk (o := 3) Q4.out rfl
    clear fa k ci zi hLs3 H3 Y3 Gs3 Q3 hL3 G3 D0_3 E0_3 D1_3 E1_3 D2_3 E2_3
    go_wp2_with fail
    clear cj
    rw [rounds_succ]
    have hw : IntKind.i64.wrap ((n : Int) + (m : Int)) = (n : Int) + m := by rw [IntKind.wrap_i64]; omega
    have hN : ((n : Int) + (m : Int)).toNat = n + m := by omega
    have hNh := Lib.hid hN
    clear hN sz0 sz1 sz2 sz3
    have X4 := Lib.hid hL4.out
    have V0 := D0_4
    have V1 := D1_4
    have V2 := D2_4
    have V3 := D3_4
    have QQ := Q4
    have GG := G4
    have LL := hL4
    clear D0_4 D1_4 D2_4 D3_4 Q4 G4 hL4 X4
    have c0 := cell_of_blk (o := 0) QQ.out rfl
    go_wp2_with fail
    refine (trim_to V0.out (n : Int) ⟨(L.drop n), [], [], false, none⟩ 0 (by
      unfold DSt.trim
      rw [if_neg (by simp), if_neg (by simp; omega)]
      first | rfl | rw [hNh.out])).mono ?_
    rintro e u0 ⟨rfl, k, fa⟩
    have W1 := Lib.hid (V1.out.keep fa (fun e => by cases e; omega) V0.out.noByte)
    have W2 := Lib.hid (V2.out.keep fa (fun e => by cases e; omega) V0.out.noByte)
    have W3 := Lib.hid (V3.out.keep fa (fun e => by cases e; omega) V0.out.noByte)
    have W0 := Lib.hid k
    have QQ' := Lib.hid (fa.blk QQ.out (fun e => by cases e; omega))
    have GG' := Lib.hid (GG.out.trans fa (fun i hi e => by cases e; have := G0l; omega))
    have LL' := Lib.hid (LL.out.keep fa (fun b hb hS => (V0.out.noByte b hb hS).1))
    have hbz := fa.size
    clear fa k c0 V0 V1 V2 V3 QQ GG LL
    have V0 := W0
    have V1 := W1
    have V2 := W2
    have V3 := W3
    have QQ := QQ'
    have GG := GG'
    have LL := LL'
    clear W0 W1 W2 W3 QQ' GG' LL'
    have c0 := cell_of_blk (o := 0) QQ.out rfl
    go_wp2_with fail
    refine (trim_to V0.out (m : Int) ⟨((L.drop n).drop m), [], [], false, none⟩ 0 (by
      unfold DSt.trim
      rw [if_neg (by simp), if_neg (by simp; omega)]
      first | rfl | rw [hNh.out])).mono ?_
    rintro e u1 ⟨rfl, k, fa⟩
    have W1 := Lib.hid (V1.out.keep fa (fun e => by cases e; omega) V0.out.noByte)
    have W2 := Lib.hid (V2.out.keep fa (fun e => by cases e; omega) V0.out.noByte)
    have W3 := Lib.hid (V3.out.keep fa (fun e => by cases e; omega) V0.out.noByte)
    have W0 := Lib.hid k
    have QQ' := Lib.hid (fa.blk QQ.out (fun e => by cases e; omega))
    have GG' := Lib.hid (GG.out.trans fa (fun i hi e => by cases e; have := G0l; omega))
    have LL' := Lib.hid (LL.out.keep fa (fun b hb hS => (V0.out.noByte b hb hS).1))
    have hbz := fa.size
    clear fa k c0 V0 V1 V2 V3 QQ GG LL
    have V0 := W0
    have V1 := W1
    have V2 := W2
    have V3 := W3
    have QQ := QQ'
    have GG := GG'
    have LL := LL'
    clear W0 W1 W2 W3 QQ' GG' LL'
    have c1 := cell_of_blk (o := 1) QQ.out rfl
    go_wp2_with fail
    refine (trim_to V1.out ((n : Int) + (m : Int)) ⟨(L.drop (n + m)), [], [], false, none⟩ 0 (by
      unfold DSt.trim
      rw [if_neg (by simp), if_neg (by simp; omega)]
      first | rfl | rw [hNh.out])).mono ?_
    rintro e u2 ⟨rfl, k, fa⟩
    have W0 := Lib.hid (V0.out.keep fa (fun e => by cases e; omega) V1.out.noByte)
    have W2 := Lib.hid (V2.out.keep fa (fun e => by cases e; omega) V1.out.noByte)
    have W3 := Lib.hid (V3.out.keep fa (fun e => by cases e; omega) V1.out.noByte)
    have W1 := Lib.hid k
    have QQ' := Lib.hid (fa.blk QQ.out (fun e => by cases e; omega))
    have GG' := Lib.hid (GG.out.trans fa (fun i hi e => by cases e; have := G0l; omega))
    have LL' := Lib.hid (LL.out.keep fa (fun b hb hS => (V1.out.noByte b hb hS).1))
    have hbz := fa.size
    clear fa k c1 V0 V1 V2 V3 QQ GG LL
    have V0 := W0
    have V1 := W1
    have V2 := W2
    have V3 := W3
    have QQ := QQ'
    have GG := GG'
    have LL := LL'
    clear W0 W1 W2 W3 QQ' GG' LL'
    have c2 := cell_of_blk (o := 2) QQ.out rfl
    go_wp2_with fail
    refine (trim_to V2.out (n : Int) ⟨(L.drop n), [], [], false, none⟩ 0 (by
      unfold DSt.trim
      rw [if_neg (by simp), if_neg (by simp; omega)]
      first | rfl | rw [hNh.out])).mono ?_
    rintro e u3 ⟨rfl, k, fa⟩
    have W0 := Lib.hid (V0.out.keep fa (fun e => by cases e; omega) V2.out.noByte)
    have W1 := Lib.hid (V1.out.keep fa (fun e => by cases e; omega) V2.out.noByte)
    have W3 := Lib.hid (V3.out.keep fa (fun e => by cases e; omega) V2.out.noByte)
    have W2 := Lib.hid k
    have QQ' := Lib.hid (fa.blk QQ.out (fun e => by cases e; omega))
    have GG' := Lib.hid (GG.out.trans fa (fun i hi e => by cases e; have := G0l; omega))
    have LL' := Lib.hid (LL.out.keep fa (fun b hb hS => (V2.out.noByte b hb hS).1))
    have hbz := fa.size
    clear fa k c2 V0 V1 V2 V3 QQ GG LL
    have V0 := W0
    have V1 := W1
    have V2 := W2
    have V3 := W3
    have QQ := QQ'
    have GG := GG'
    have LL := LL'
    clear W0 W1 W2 W3 QQ' GG' LL'
    have c2 := cell_of_blk (o := 2) QQ.out rfl
    go_wp2_with fail
    refine (cut_to V2.out (m : Int) ⟨((L.drop n).take m), [], [], false, none⟩ 0 (by
      unfold DSt.cut
      rw [if_neg (by simp), if_neg (by simp; omega)]
      first | rfl | rw [hNh.out])).mono ?_
    rintro e u4 ⟨rfl, k, fa⟩
    have W0 := Lib.hid (V0.out.keep fa (fun e => by cases e; omega) V2.out.noByte)
    have W1 := Lib.hid (V1.out.keep fa (fun e => by cases e; omega) V2.out.noByte)
    have W3 := Lib.hid (V3.out.keep fa (fun e => by cases e; omega) V2.out.noByte)
    have W2 := Lib.hid k
    have QQ' := Lib.hid (fa.blk QQ.out (fun e => by cases e; omega))
    have GG' := Lib.hid (GG.out.trans fa (fun i hi e => by cases e; have := G0l; omega))
    have LL' := Lib.hid (LL.out.keep fa (fun b hb hS => (V2.out.noByte b hb hS).1))
    have hbz := fa.size
    clear fa k c2 V0 V1 V2 V3 QQ GG LL
    have V0 := W0
    have V1 := W1
    have V2 := W2
    have V3 := W3
    have QQ := QQ'
    have GG := GG'
    have LL := LL'
    clear W0 W1 W2 W3 QQ' GG' LL'
    have c3 := cell_of_blk (o := 3) QQ.out rfl
    go_wp2_with fail
    refine (cut_to V3.out ((n : Int) + (m : Int)) ⟨(L.take (n + m)), [], [], false, none⟩ 0 (by
      unfold DSt.cut
      rw [if_neg (by simp), if_neg (by simp; omega)]
      first | rfl | rw [hNh.out])).mono ?_
    rintro e u5 ⟨rfl, k, fa⟩
    have W0 := Lib.hid (V0.out.keep fa (fun e => by cases e; omega) V3.out.noByte)
    have W1 := Lib.hid (V1.out.keep fa (fun e => by cases e; omega) V3.out.noByte)
    have W2 := Lib.hid (V2.out.keep fa (fun e => by cases e; omega) V3.out.noByte)
    have W3 := Lib.hid k
    have QQ' := Lib.hid (fa.blk QQ.out (fun e => by cases e; omega))
    have GG' := Lib.hid (GG.out.trans fa (fun i hi e => by cases e; have := G0l; omega))
    have LL' := Lib.hid (LL.out.keep fa (fun b hb hS => (V3.out.noByte b hb hS).1))
    have hbz := fa.size
    clear fa k c3 V0 V1 V2 V3 QQ GG LL
    have V0 := W0
    have V1 := W1
    have V2 := W2
    have V3 := W3
    have QQ := QQ'
    have GG := GG'
    have LL := LL'
    clear W0 W1 W2 W3 QQ' GG' LL'
    have c3 := cell_of_blk (o := 3) QQ.out rfl
    go_wp2_with fail
    refine (trim_to V3.out (n : Int) ⟨((L.take (n + m)).drop n), [], [], false, none⟩ 0 (by
      unfold DSt.trim
      rw [if_neg (by simp), if_neg (by simp; omega)]
      first | rfl | rw [hNh.out])).mono ?_
    rintro e u6 ⟨rfl, k, fa⟩
    have W0 := Lib.hid (V0.out.keep fa (fun e => by cases e; omega) V3.out.noByte)
    have W1 := Lib.hid (V1.out.keep fa (fun e => by cases e; omega) V3.out.noByte)
    have W2 := Lib.hid (V2.out.keep fa (fun e => by cases e; omega) V3.out.noByte)
    have W3 := Lib.hid k
    have QQ' := Lib.hid (fa.blk QQ.out (fun e => by cases e; omega))
    have GG' := Lib.hid (GG.out.trans fa (fun i hi e => by cases e; have := G0l; omega))
    have LL' := Lib.hid (LL.out.keep fa (fun b hb hS => (V3.out.noByte b hb hS).1))
    have hbz := fa.size
    clear fa k c3 V0 V1 V2 V3 QQ GG LL
    have V0 := W0
    have V1 := W1
    have V2 := W2
    have V3 := W3
    have QQ := QQ'
    have GG := GG'
    have LL := LL'
    clear W0 W1 W2 W3 QQ' GG' LL'
    clear hw
    go_upto_region 13 with fail
    have K : PK W g b0 b1 b2 b3 n m (.slice aL L.length cL) L u6.drew := PK.keep0 ⟨V0.out, V1.out, V2.out, V3.out, QQ.out, LL.out, GG.out⟩ (Fr.refl _ _).drew
    have p0 := cell_of_blk (o := 0) K.row rfl
    have p1 := cell_of_blk (o := 1) K.row rfl
    have p2 := cell_of_blk (o := 2) K.row rfl
    have p3 := cell_of_blk (o := 3) K.row rfl
    clear V0 V1 V2 V3 QQ LL GG
    have hw : IntKind.i64.wrap ((n : Int) + (m : Int)) = (n : Int) + m := by rw [IntKind.wrap_i64]; omega
    have hN : ((n : Int) + (m : Int)).toNat = n + m := hNh.out
    have j1 : (0 : Int) ≤ (n : Int) + (m : Int) := by omega
    have j2 : (n : Int) + (m : Int) ≤ (L.length : Int) := by omega
    have j5 : (n : Int) ≤ (n : Int) + (m : Int) := by omega
    have j6 : (0 : Int) ≤ (n : Int) := by omega
    have hel : Try.prog.elem 27 = 5 := by kernel_rfl
    have hsz : ∀ w, (sizeOf (Try.prog.elem 27)).run Try.prog w = .ok 1 w := fun w => by
      obtain ⟨i0, hi, _, hz1, _⟩ := info_parts Try.info5
      simp [hel, sizeOf, typeInfo, hi, hz1]
    have htl : Try.prog.underlying 27 = some (.slice (Try.prog.elem 27)) := by rw [hel]; exact Try.underlying27
    obtain ⟨aA, kA, hrA, hbA⟩ := slice_l_ex 27 htl hsz aL L.length cL L _ K.list ((n : Int) + (m : Int)) j1 j2
    obtain ⟨aB, kB, hrB, hbB⟩ := slice_lh_ex 27 htl hsz aL L.length cL L _ K.list (n : Int) ((n : Int) + (m : Int)) j6 j5 j2
    simp only [hN, Int.toNat_natCast, Nat.add_sub_cancel_left] at hrA hrB hbA hbB
    have hbA := Lib.hid hbA
    have hbB := Lib.hid hbB
    clear hel hsz htl j1 j2 j5 j6 hN
    go_region_held3 (fun w => w.cell? ⟨g, 0, none⟩ = some (.pointer (some ⟨b0, 0, none⟩)) ∧ w.cell? ⟨g, 1, none⟩ = some (.pointer (some ⟨b1, 0, none⟩)) ∧ w.cell? ⟨g, 2, none⟩ = some (.pointer (some ⟨b2, 0, none⟩)) ∧ w.cell? ⟨g, 3, none⟩ = some (.pointer (some ⟨b3, 0, none⟩))) (exact ⟨p0, p1, p2, p3⟩)
          (first
            | (go_at_call 19; refine (eq_same (K := (L.take (n + m)).drop n) (L := (L.take (n + m)).drop n) bKd (hbB.out _ Kd.list) rfl).mono ?_; rintro e w' ⟨rfl, rfl⟩)
            | (go_at_call 14; refine (Kc.log Kc.k3).mono ?_; rintro e wd ⟨vd, rfl, bKd, Kd, fKd⟩; clear p0 p1 p2 p3; have p0 := cell_of_blk (o := 0) Kd.row rfl; have p1 := cell_of_blk (o := 1) Kd.row rfl; have p2 := cell_of_blk (o := 2) Kd.row rfl; have p3 := cell_of_blk (o := 3) Kd.row rfl)
            | (go_at_call 19; refine (eq_same (K := (L.drop n).take m) (L := (L.take (n + m)).drop n) bKc (hbB.out _ Kc.list) (drop_take_same L n m)).mono ?_; rintro e w' ⟨rfl, rfl⟩)
            | (go_at_call 14; refine (Kb.log Kb.k2).mono ?_; rintro e wc0 ⟨vc, rfl, bKc, Kc, fKc⟩; clear p0 p1 p2 p3; have p0 := cell_of_blk (o := 0) Kc.row rfl; have p1 := cell_of_blk (o := 1) Kc.row rfl; have p2 := cell_of_blk (o := 2) Kc.row rfl; have p3 := cell_of_blk (o := 3) Kc.row rfl)
            | (go_at_call 19; refine (eq_same (K := L.drop (n + m)) (L := L.drop (n + m)) bKb (hbA.out _ Kb.list) rfl).mono ?_; rintro e w' ⟨rfl, rfl⟩)
            | (go_at_call 14; refine (Ka.log Ka.k1).mono ?_; rintro e wb ⟨vb, rfl, bKb, Kb, fKb⟩; clear p0 p1 p2 p3; have p0 := cell_of_blk (o := 0) Kb.row rfl; have p1 := cell_of_blk (o := 1) Kb.row rfl; have p2 := cell_of_blk (o := 2) Kb.row rfl; have p3 := cell_of_blk (o := 3) Kb.row rfl)
            | (go_at_call 19; refine (eq_same (K := (L.drop n).drop m) (L := L.drop (n + m)) bKa (hbA.out _ Ka.list) List.drop_drop).mono ?_; rintro e w' ⟨rfl, rfl⟩)
            | (go_at_call 14; refine (K.log K.k0).mono ?_; rintro e wa ⟨va, rfl, bKa, Ka, fKa⟩; clear p0 p1 p2 p3; have p0 := cell_of_blk (o := 0) Ka.row rfl; have p1 := cell_of_blk (o := 1) Ka.row rfl; have p2 := cell_of_blk (o := 2) Ka.row rfl; have p3 := cell_of_blk (o := 3) Ka.row rfl)
            | (go_at_call 13; refine (works_any _).mono ?_; rintro e we ⟨rfl, fe⟩; have Ke := Kd.keep0 fe; clear p0 p1 p2 p3; have p0 := cell_of_blk (o := 0) Ke.row rfl; have p1 := cell_of_blk (o := 1) Ke.row rfl; have p2 := cell_of_blk (o := 2) Ke.row rfl; have p3 := cell_of_blk (o := 3) Ke.row rfl))
    go_wp2_with fail
    go_ret
    exact ⟨rfl, Ke.fr.below (Nat.le_refl _) (fun _ h => h.elim)⟩

end Go.Proofs.Ytnflppgmccddoaa
