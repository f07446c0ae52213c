/-
  The statements' walks: DiskAgain.
-/
import Derived.Test.YtnflppgmccddoaaW
import Derived.Test.YtnflppgmccddoaaOpen
import Derived.RegionTactic
import Derived.Deep.DeepCutAuto
namespace Go.Proofs.Ytnflppgmccddoaa
set_option linter.unusedVariables false
open Go.RowKit

/-- Element k of a row of one-cell elements. -/
theorem Sl.elem {w : World} {a : Option Addr} {n c : Nat} {cs : List Value} (h : Sl w (.slice a n c) 1 n cs) (k : Nat) (hk : k < n) :
    ∃ b off u, a = some ⟨b, off, none⟩ ∧ b < w.heap.size ∧ cs[k]? = some u ∧ w.cell? ⟨b, off + k, none⟩ = some u := by
  obtain ⟨ao, cap, e, h1, h2, h3, h4⟩ := h
  injection e with e1 e2 e3
  subst e1; subst e3
  obtain ⟨g, off, rfl, hg, hc⟩ := h4 (by omega)
  have hl : k < cs.length := by rw [h2]; omega
  exact ⟨g, off, cs[k], rfl, hg (by decide), List.getElem?_eq_getElem hl, hc k _ (List.getElem?_eq_getElem hl)⟩

def ACut1 (wr : World) (s10 : Value) (w : World) : Prop := (∃ L a c, s10 = .slice a L.length c ∧ Bytes w s10 L ∧ L.length ≤ 100) ∧ Fr none' wr w
def ACut2 (W : World) (b c : Nat) (vL : Value) (L M : List UInt8) (w : World) : Prop := Bytes w vL L ∧ Dk none' w b ⟨M, [], [], false, none⟩ ∧ Dk none' w c ⟨M, [], [], false, none⟩ ∧ Fr none' W w

set_option maxRecDepth 100000 in
set_option maxHeartbeats 4000000 in
theorem again_walk (a : Option Addr) (cap : Nat) (xs : List (Value × List UInt8)) (x0 x1 : Int) (W : World) (hm : xs.length ≤ 9223372036854775807) (hl : Sl W (.slice a xs.length cap) 1 xs.length (xs.map (·.1))) (hx : ∀ m ∈ xs, Bytes W m.1 m.2 ∧ m.2.length ≤ 9223372036854775807) :
    Calls Try.prog 7 #[.slice a xs.length cap, .int .i64 x0, .int .i64 x1] W fun e w' => e = .returned (.bool true) ∧ Below W.heap.size W w' := by
  have hxh := Lib.hid hx
  clear hx
  go_enter Try.func7, Try.ntmps7
  go_wp2_with fail
  refine (dnew_any (V := none') _).mono ?_
  rintro e w1 ⟨b, rfl, hb, h1, f1⟩
  go_wp2_with fail
  refine (dnew_any (V := none') _).mono ?_
  rintro e w2 ⟨c, rfl, hc, h2, f2⟩
  have hbl := h1.lt
  have h1 := h1.keep0 f2
  have F2 := f1.trans f2 (fun _ _ h => h)
  have hbc : b < c := by omega
  have hbW : W.heap.size ≤ c := by have := f1.size; omega
  clear f1 f2
  go_wp2_with fail
  go_loopw [9] (fun i wr => ∃ k : Nat, i = .int .i64 k ∧ k ≤ xs.length ∧ k ≤ 20 ∧ ∃ M, M.length ≤ 100 * k ∧ Dk none' wr b ⟨M, [], [], false, none⟩ ∧ Dk none' wr c ⟨M, [], [], false, none⟩ ∧ Fr none' W wr) (fun i _ => xs.length - (intOf i).toNat)
  case atStart => exact ⟨0, rfl, Nat.zero_le _, Nat.zero_le _, [], by simp, h1, h2, F2⟩
  case round =>
    obtain ⟨k, rfl, hk, hk5, M, hM, kr, rr, br⟩ := hrel
    clear h1 h2 F2
    by_cases hlt : k < xs.length ∧ k < 20
    · obtain ⟨hlt, hlt5⟩ := hlt
      obtain ⟨q, off, u, rfl, hq, hu, hxc⟩ := hl.elem k hlt
      rw [List.getElem?_map, List.getElem?_eq_getElem hlt] at hu
      obtain ⟨hB, hBl⟩ := hxh.out _ (List.getElem_mem hlt)
      obtain ⟨aB, cB, hv⟩ := hB.cells
      rw [show u = xs[k].1 from by simpa using hu.symm, hv] at hxc
      rw [hv] at hB
      obtain ⟨B, hBe⟩ : ∃ B, B = xs[k].2 := ⟨_, rfl⟩
      rw [← hBe] at hB hBl hxc
      have hxr := (br.cell (p := ⟨q, off + k, none⟩) hq id).trans hxc
      have hBr := hB.keep0 br
      have hBc := hBr.facts.2.1
      clear hu hxc hB hv hBe
      have hbr := Lib.hid br
      clear br
      go_upto_region 5 with fail
      go_cut [10] (fun s10 w => ACut1 wr s10 w)
      case first =>
        rcases (show B.length ≤ 100 ∨ 100 < B.length by omega) with hA | hA
        · go_region
          go_wp2_with fail
          go_meet
          exact ⟨⟨B, _, _, rfl, hBr.keep0 (Fr.refl _ _).drew, hA⟩, (Fr.refl _ _).drew⟩
        · go_region
          go_wp2_with fail
          go_meet
          have e : (B.take 100).length = 100 := by simp; omega
          exact ⟨⟨B.take 100, _, _, by rw [e], (hBr.take rfl 100 (by omega)).keep0 (Fr.refl _ _).drew, by omega⟩, (Fr.refl _ _).drew⟩
      case rest =>
        obtain ⟨wo, rfl⟩ : ∃ wo, wo = wr := ⟨_, rfl⟩
        obtain ⟨w1', rfl⟩ : ∃ w1', w1' = wc := ⟨_, rfl⟩
        obtain ⟨⟨L, aL, cL, rfl, hL, hL3⟩, f1'⟩ := hcut
        have kr := kr.keep0 f1'
        have rr := rr.keep0 f1'
        have br := hbr.out.trans f1' (fun _ _ h => h)
        clear hBr hBc hbr f1' hxr
        go_wp2_with fail
        refine (bring_ex _ _ _ (by omega) (by omega)).mono ?_
        rintro e w' ⟨m, rfl, m0, m1, -, rfl⟩
        have hmk := Lib.hid (And.intro m0 m1)
        clear m0 m1
        go_upto_if 39 with fail
        have hMl : M.length ≤ 2000 := by omega
        go_cut [] (fun w => ACut2 W b c (.slice aL L.length cL) L M w)
        case first =>
          rcases (show (k : Int) = m ∨ ¬ (k : Int) = m by omega) with he | he
          · subst he
            go_wp2_with fail
            refine (log_to kr).mono ?_
            rintro e w2 ⟨v2, rfl, b2, k2, f2⟩
            obtain ⟨a2, c2, rfl⟩ := Bytes.cells (w := w2) (L := M) b2
            have r2 := rr.keep0 f2
            have L2 := hL.keep0 f2
            have F2 := br.trans f2 (fun _ _ h => h)
            clear b2 kr rr hL br f2
            have hw1 : IntKind.i64.wrap ((L.length : Int) + 1) = (L.length : Int) + 1 := by rw [IntKind.wrap_i64]; omega
            go_wp2_with fail
            refine (bring_ex _ _ _ (by omega) (by omega)).mono ?_
            rintro e w' ⟨n, rfl, n0, n1, -, rfl⟩
            obtain ⟨n, rfl⟩ := Int.eq_ofNat_of_zero_le n0
            clear hw1
            have hnL : n ≤ L.length := by omega
            clear n1
            go_wp2_with fail
            refine (arm_to k2 (n : Int) ⟨M, [], [], false, some (n : Int)⟩ 0 (by omega) (by
              unfold DSt.armed
              rw [if_neg (by simp), if_neg (by omega)])).mono ?_
            rintro e w3 ⟨rfl, k3, f3⟩
            have r3 := r2.keep f3 (fun e => by cases e; omega) k2.noByte
            have L3 := L2.keep f3 (fun b hb hS => (k2.noByte b hb hS).1)
            have F3 := F2.trans f3 (fun i hi e => by cases e; omega)
            clear k2 r2 L2 F2 f3
            go_wp2_with fail
            refine (append_to k3 L3 (by omega) ⟨M ++ L.take n, [], [], true, some (n : Int)⟩ 130 (by
              unfold DSt.append DSt.laid
              rw [if_neg (by simp), if_neg (by simp; omega)]
              rfl)).mono ?_
            rintro e w4 ⟨rfl, k4, f4⟩
            have r4 := r3.keep f4 (fun e => by cases e; omega) k3.noByte
            have L4 := L3.keep f4 (fun b hb hS => (k3.noByte b hb hS).1)
            have F4 := F3.trans f4 (fun i hi e => by cases e; omega)
            clear k3 r3 L3 F3 f4
            go_wp2_with fail
            refine (log_to k4).mono ?_
            rintro e w5 ⟨v5, rfl, b5, k5, f5⟩
            obtain ⟨a5, c5, rfl⟩ := Bytes.cells (w := w5) (L := M ++ L.take n) b5
            have r5 := r4.keep0 f5
            have L5 := L4.keep0 f5
            have F5 := F4.trans f5 (fun _ _ h => h)
            clear b5 k4 r4 L4 F4 f5
            have hlen : (M ++ L.take n).length = M.length + n := by rw [List.length_append, List.length_take]; omega
            rw [hlen]
            clear hlen
            have hw1 : IntKind.i64.wrap ((M.length : Int) + (n : Int)) = (M.length : Int) + n := by rw [IntKind.wrap_i64]; omega
            go_wp2_with fail
            refine (revive_any _ _ _ k5).mono ?_
            rintro e w6 ⟨rfl, k6, f6⟩
            have r6 := r5.keep f6 (fun e => by cases e; omega) k5.noByte
            have L6 := L5.keep f6 (fun b hb hS => (k5.noByte b hb hS).1)
            have F6 := F5.trans f6 (fun i hi e => by cases e; omega)
            clear k5 r5 L5 F5 f6
            go_wp2_with fail
            refine (cut_to k6 (M.length : Int) ⟨M, [], [], false, none⟩ 0 (by
              unfold DSt.cut DSt.revived
              rw [if_neg (by simp), if_neg (by simp; omega)]
              simp)).mono ?_
            rintro e w7 ⟨rfl, k7, f7⟩
            have r7 := r6.keep f7 (fun e => by cases e; omega) k6.noByte
            have L7 := L6.keep f7 (fun b hb hS => (k6.noByte b hb hS).1)
            have F7 := F6.trans f7 (fun i hi e => by cases e; omega)
            clear k6 r6 L6 F6 f7
            go_wp2_with fail
            go_meet
            exact ⟨L7, k7, r7, F7⟩
          · go_wp2_with fail
            go_meet
            exact ⟨hL, kr, rr, br⟩
        case rest =>
          obtain ⟨w2, rfl⟩ : ∃ w2, w2 = wc := ⟨_, rfl⟩
          obtain ⟨L2, k2, r2, F2⟩ := hcut
          clear hL kr rr br
          go_wp2_with fail
          refine (append_to k2 L2 (by omega) ⟨M ++ L, [], [], false, none⟩ 0 (by
            unfold DSt.append DSt.laid
            rw [if_neg (by simp), if_neg (by simp; omega)]
            rfl)).mono ?_
          rintro e w3 ⟨rfl, k3, f3⟩
          have r3 := r2.keep f3 (fun e => by cases e; omega) k2.noByte
          have L3 := L2.keep f3 (fun b hb hS => (k2.noByte b hb hS).1)
          have F3 := F2.trans f3 (fun i hi e => by cases e; omega)
          clear k2 r2 L2 F2 f3
          go_wp2_with fail
          refine (append_to r3 L3 (by omega) ⟨M ++ L, [], [], false, none⟩ 0 (by
            unfold DSt.append DSt.laid
            rw [if_neg (by simp), if_neg (by simp; omega)]
            rfl)).mono ?_
          rintro e w4 ⟨rfl, r4, f4⟩
          have k4 := k3.keep f4 (fun e => by cases e; omega) r3.noByte
          have F4 := F3.trans f4 (fun i hi e => by cases e; omega)
          clear k3 r3 L3 F3 f4
          go_wp2_with fail
          refine (log_to k4).mono ?_
          rintro e w5 ⟨v5, rfl, b5, k5, f5⟩
          go_wp2_with fail
          refine (log_to (r4.keep0 f5)).mono ?_
          rintro e w6 ⟨v6, rfl, b6, k6, f6⟩
          have F6 := (F4.trans f5 (fun _ _ h => h)).trans f6 (fun _ _ h => h)
          have k5' := k5.keep0 f6
          go_wp2_with fail
          refine (eqBytes_any _ _ (M ++ L) (M ++ L) _ (b5.keep0 f6) b6).mono ?_
          rintro e w' ⟨rfl, rfl⟩
          rw [show ((M ++ L) == (M ++ L)) = true by simp]
          clear b5 b6 f5 f6 k5 r4 k4 F4
          go_wp2_with fail
          go_roundw
          case rel => exact ⟨k + 1, by go_num, by omega, by omega, M ++ L, by simp; omega, k5', k6, F6⟩
          case measure => simp [intOf]; omega
    · clear hl
      rcases (show k = xs.length ∨ (k < xs.length ∧ k = 20) by omega) with h0 | ⟨h0, h1⟩
      · have h0' : ¬ k < xs.length := by omega
        clear h0
        go_wp2_with fail
        refine (dead_any _ _ _ kr).mono ?_
        rintro e w' ⟨rfl, rfl⟩
        go_wp2_with fail
        refine (works_any _).mono ?_
        rintro e w3 ⟨rfl, f3⟩
        go_wp2_with fail
        go_ret
        exact ⟨rfl, (br.trans f3 (fun _ _ h => h)).below (Nat.le_refl _) (fun _ h => h.elim)⟩
      · have h1' : ¬ k < 20 := by omega
        clear h1
        go_wp2_with fail
        refine (dead_any _ _ _ kr).mono ?_
        rintro e w' ⟨rfl, rfl⟩
        go_wp2_with fail
        refine (works_any _).mono ?_
        rintro e w3 ⟨rfl, f3⟩
        go_wp2_with fail
        go_ret
        exact ⟨rfl, (br.trans f3 (fun _ _ h => h)).below (Nat.le_refl _) (fun _ h => h.elim)⟩

end Go.Proofs.Ytnflppgmccddoaa
