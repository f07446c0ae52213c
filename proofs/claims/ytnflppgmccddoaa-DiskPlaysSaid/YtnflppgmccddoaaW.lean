/-
  The chapter's disk: gimballaw13.works returns true.
-/
import Derived.Test.YtnflppgmccddoaaC
namespace Go.Proofs.Ytnflppgmccddoaa
set_option linter.unusedVariables false
open Go.RowKit
variable {V : Nat → Prop}

theorem bytes_new (w : World) (c : Array Value) (L : List UInt8) (n : Nat) (hc : c = (byt L).toArray) (hn : L.length = n) : Bytes (w.alloc (.cells c 5)) (.slice (some ⟨w.heap.size, 0, none⟩) n n) L := by
  subst hc; subst hn
  refine ⟨_, _, rfl, Nat.le_refl _, by simp [byt], fun h => (by cases h), fun _ => ⟨_, 0, rfl, fun _ => by simp, fun j u hj => ?_⟩⟩
  exact cell_of_blk (o := 0 + j) (blk_alloc_new rfl) (by rw [Nat.zero_add]; simpa using hj)

/-- Append of bytes that are written out. -/
theorem append_lit {b : Nat} {s : DSt} {w : World} (h : Dk V w b s) (c : Array Value) (L : List UInt8) (n : Nat) (s' : DSt) (x : Int) (hc : c = (byt L).toArray) (hn : L.length = n) (hs : s.append L = (s', x)) (hL : n ≤ 100) :
    Calls Try.prog 24 #[.pointer (some ⟨b, 0, none⟩), .slice (some ⟨w.heap.size, 0, none⟩) n n] (w.alloc (.cells c 5)) fun e w' => e = .returned (.int .i64 x) ∧ Dk V w' b s' ∧ Fr (one b) w w' := by
  have fa : Fr (one b) w (w.alloc (.cells c 5)) := (Fr.refl _ _).alloc _
  refine (append_any b s _ L _ (h.keep0 ((Fr.refl _ _).alloc _)) (bytes_new w c L n hc hn) (by omega)).mono ?_
  rintro e w' ⟨rfl, h1, f1⟩
  rw [hs] at h1 ⊢
  exact ⟨rfl, h1, fa.trans f1 (fun _ _ h => h)⟩

/-- Slot of bytes that are written out. -/
theorem slot_lit {b : Nat} {s : DSt} {w : World} (h : Dk V w b s) (k : Int) (c : Array Value) (L : List UInt8) (n : Nat) (s' : DSt) (x : Int) (hc : c = (byt L).toArray) (hn : L.length = n) (hs : s.slots k L = (s', x)) (hL : n ≤ 100) :
    Calls Try.prog 17 #[.pointer (some ⟨b, 0, none⟩), .int .i64 k, .slice (some ⟨w.heap.size, 0, none⟩) n n] (w.alloc (.cells c 5)) fun e w' => e = .returned (.int .i64 x) ∧ Dk V w' b s' ∧ Fr (one b) w w' := by
  have fa : Fr (one b) w (w.alloc (.cells c 5)) := (Fr.refl _ _).alloc _
  refine (slot_any b k s _ L _ (h.keep0 ((Fr.refl _ _).alloc _)) (bytes_new w c L n hc hn) (by omega)).mono ?_
  rintro e w' ⟨rfl, h1, f1⟩
  rw [hs] at h1 ⊢
  exact ⟨rfl, h1, fa.trans f1 (fun _ _ h => h)⟩

/-- EqBytes against bytes that are written out. -/
theorem eq_lit {w : World} {v : Value} {K : List UInt8} (h : Bytes w v K) (c : Array Value) (L : List UInt8) (n : Nat) (hc : c = (byt L).toArray) (hn : L.length = n) (x : Bool) (hx : (K == L) = x) :
    Calls Try.prog 19 #[v, .slice (some ⟨w.heap.size, 0, none⟩) n n] (w.alloc (.cells c 5)) fun e w' => e = .returned (.bool x) ∧ Fr none' w w' := by
  refine (eqBytes_any v _ K L _ (h.keep0 ((Fr.refl _ _).alloc _)) (bytes_new w c L n hc hn)).mono ?_
  rintro e w' ⟨rfl, rfl⟩
  rw [hx]
  exact ⟨rfl, (Fr.refl _ _).alloc _⟩

theorem trim_to {b : Nat} {s : DSt} {w : World} (h : Dk V w b s) (n : Int) (s' : DSt) (x : Int) (hs : s.trim n = (s', x)) :
    Calls Try.prog 20 #[.pointer (some ⟨b, 0, none⟩), .int .i64 n] w fun e w' => e = .returned (.int .i64 x) ∧ Dk V w' b s' ∧ Fr (one b) w w' := by
  have := trim_any b n s w h
  rw [hs] at this
  exact this
theorem cut_to {b : Nat} {s : DSt} {w : World} (h : Dk V w b s) (n : Int) (s' : DSt) (x : Int) (hs : s.cut n = (s', x)) :
    Calls Try.prog 21 #[.pointer (some ⟨b, 0, none⟩), .int .i64 n] w fun e w' => e = .returned (.int .i64 x) ∧ Dk V w' b s' ∧ Fr (one b) w w' := by
  have := cut_any b n s w h
  rw [hs] at this
  exact this
theorem arm_to {b : Nat} {s : DSt} {w : World} (h : Dk V w b s) (n : Int) (s' : DSt) (x : Int) (hn : n ≤ 9223372036854775807) (hs : s.armed n = (s', x)) :
    Calls Try.prog 22 #[.pointer (some ⟨b, 0, none⟩), .int .i64 n] w fun e w' => e = .returned (.int .i64 x) ∧ Dk V w' b s' ∧ Fr (one b) w w' := by
  have := arm_any b n s w h hn
  rw [hs] at this
  exact this
theorem append_to {b : Nat} {s : DSt} {w : World} (h : Dk V w b s) {v : Value} {L : List UInt8} (hv : Bytes w v L) (hL : L.length ≤ 140737488355328) (s' : DSt) (x : Int) (hs : s.append L = (s', x)) :
    Calls Try.prog 24 #[.pointer (some ⟨b, 0, none⟩), v] w fun e w' => e = .returned (.int .i64 x) ∧ Dk V w' b s' ∧ Fr (one b) w w' := by
  have := append_any b s v L w h hv hL
  rw [hs] at this
  exact this
theorem slot_to {b : Nat} {s : DSt} {w : World} (h : Dk V w b s) (k : Int) {v : Value} {L : List UInt8} (hv : Bytes w v L) (hL : L.length ≤ 140737488355328) (s' : DSt) (x : Int) (hs : s.slots k L = (s', x)) :
    Calls Try.prog 17 #[.pointer (some ⟨b, 0, none⟩), .int .i64 k, v] w fun e w' => e = .returned (.int .i64 x) ∧ Dk V w' b s' ∧ Fr (one b) w w' := by
  have := slot_any b k s v L w h hv hL
  rw [hs] at this
  exact this
theorem log_to {b : Nat} {s : DSt} {w : World} (h : Dk V w b s) : Calls Try.prog 14 #[.pointer (some ⟨b, 0, none⟩)] w fun e w' => ∃ v, e = .returned v ∧ Bytes w' v s.log ∧ Dk V w' b s ∧ Fr none' w w' := by
  refine (log_any b s w h).mono ?_
  rintro e w' ⟨v, rfl, ho, f⟩
  exact ⟨v, rfl, Sl.of_own ho, h.keep0 f, f⟩

set_option maxRecDepth 100000 in
set_option maxHeartbeats 1000000 in
theorem works_any (w : World) : Calls Try.prog 13 #[] w fun e w' => e = .returned (.bool true) ∧ Fr none' w w' := by
  go_enter Try.func13, Try.ntmps13
  go_wp2_with fail
  refine (dnew_any (V := none') _).mono ?_
  rintro e w1 ⟨b, rfl, hb, h1, f1⟩
  go_wp2_with fail
  refine (append_lit h1 _ [1, 2] 2 ⟨[1, 2], [], [], false, none⟩ 0 rfl rfl rfl (by decide)).mono ?_
  rintro e w2 ⟨rfl, h2, f2⟩
  go_wp2_with fail
  refine (slot_lit h2 1 _ [3, 4] 2 ⟨[1, 2], [], [3, 4], false, none⟩ 0 rfl rfl rfl (by decide)).mono ?_
  rintro e w3 ⟨rfl, h3, f3⟩
  go_wp2_with fail
  refine (arm_to h3 1 ⟨[1, 2], [], [3, 4], false, some 1⟩ 0 (by decide) rfl).mono ?_
  rintro e w4 ⟨rfl, h4, f4⟩
  go_wp2_with fail
  refine (slot_lit h4 1 _ [5, 6] 2 ⟨[1, 2], [], [5], true, some 1⟩ 130 rfl rfl rfl (by decide)).mono ?_
  rintro e w5 ⟨rfl, h5, f5⟩
  go_wp2_with fail
  refine (append_lit h5 _ [7] 1 ⟨[1, 2], [], [5], true, some 1⟩ 130 rfl rfl rfl (by decide)).mono ?_
  rintro e w6 ⟨rfl, h6, f6⟩
  go_wp2_with fail
  refine (dead_any _ _ _ h6).mono ?_
  rintro e w' ⟨rfl, rfl⟩
  go_wp2_with fail
  refine (slots_any _ _ _ h6).mono ?_
  rintro e w7 ⟨v0, v1, rfl, o0, o1, _, f7⟩
  have F7 : Fr (one b) w1 w7 := ((((f2.trans f3 (fun _ _ h => h)).trans f4 (fun _ _ h => h)).trans f5 (fun _ _ h => h)).trans f6 (fun _ _ h => h)).trans f7 (fun _ _ h => h.elim)
  have h7 := h6.keep0 f7
  obtain ⟨a0, k0, rfl⟩ := Bytes.cells (w := w7) (L := []) (Sl.of_own o0)
  obtain ⟨a1, k1, rfl⟩ := Bytes.cells (w := w7) (L := [5]) (Sl.of_own o1)
  have ho1 := Lib.hid o1
  clear f2 f3 f4 f5 f6 f7 h1 h2 h3 h4 h5 h6 o0 o1
  go_wp2_with fail
  obtain ⟨w8, hw8⟩ : ∃ w8, w8 = w7.alloc (Obj.cells #[Value.slice a0 0 k0, Value.slice a1 1 k1] 34) := ⟨_, rfl⟩
  have f8 : Fr none' w7 w8 := by rw [hw8]; exact (Fr.refl _ _).alloc _
  have hs8 : w7.heap.size + 1 = w8.heap.size := by rw [hw8]; simp
  have h8 := h7.keep0 f8
  have hb8 : Bytes w8 (.slice a1 1 k1) [5] := Bytes.keep0 (w := w7) (Sl.of_own ho1.out) f8
  rw [← hw8, hs8]
  clear hw8 hs8
  refine (eq_lit hb8 _ [5] 1 rfl rfl true rfl).mono ?_
  rintro e w9 ⟨rfl, f9⟩
  have h9 := h8.keep0 f9
  go_wp2_with fail
  refine (revive_any _ _ _ h9).mono ?_
  rintro e w10 ⟨rfl, h10, f10⟩
  go_wp2_with fail
  refine (trim_to h10 1 ⟨[2], [], [5], false, none⟩ 0 rfl).mono ?_
  rintro e w11 ⟨rfl, h11, f11⟩
  go_wp2_with fail
  refine (append_lit h11 _ [8] 1 ⟨[2, 8], [], [5], false, none⟩ 0 rfl rfl rfl (by decide)).mono ?_
  rintro e w12 ⟨rfl, h12, f12⟩
  go_wp2_with fail
  refine (log_to h12).mono ?_
  rintro e w13 ⟨v13, rfl, b13, h13, f13⟩
  go_wp2_with fail
  refine (eq_lit b13 _ [2, 8] 2 rfl rfl true rfl).mono ?_
  rintro e w14 ⟨rfl, f14⟩
  have h14 := h13.keep0 f14
  go_wp2_with fail
  refine (cut_to h14 1 ⟨[2], [], [5], false, none⟩ 0 rfl).mono ?_
  rintro e w15 ⟨rfl, h15, f15⟩
  go_wp2_with fail
  refine (log_to h15).mono ?_
  rintro e w16 ⟨v16, rfl, b16, h16, f16⟩
  go_wp2_with fail
  refine (eq_lit b16 _ [2] 1 rfl rfl true rfl).mono ?_
  rintro e w17 ⟨rfl, f17⟩
  have h17 := h16.keep0 f17
  go_wp2_with fail
  refine (slot_lit h17 2 _ [1] 1 ⟨[2], [], [5], false, none⟩ 9 rfl rfl rfl (by decide)).mono ?_
  rintro e w18 ⟨rfl, h18, f18⟩
  go_wp2_with fail
  go_ret
  have F : Fr (one b) w1 w18 := ((((((((((F7.trans f8 (fun _ _ h => h.elim)).trans f9 (fun _ _ h => h.elim)).trans f10 (fun _ _ h => h)).trans f11 (fun _ _ h => h)).trans f12 (fun _ _ h => h)).trans f13 (fun _ _ h => h.elim)).trans f14 (fun _ _ h => h.elim)).trans f15 (fun _ _ h => h)).trans f16 (fun _ _ h => h.elim)).trans f17 (fun _ _ h => h.elim)).trans f18 (fun _ _ h => h)
  exact ⟨rfl, f1.trans F (fun i hi h => by cases h; omega)⟩

end Go.Proofs.Ytnflppgmccddoaa
