/-
  gimbal/item.Check, part two: kinds.
-/
import Derived.Test.YtmhicplhfbnpaaaDoorItemB
namespace Go.Proofs.YtmhicplhfbnpaaaDoor
set_option linter.unusedVariables false
set_option linter.unusedSimpArgs false
open Go.RowKit

theorem iwithin_any (n a b : Int) (w : World) : Calls Tryd.prog 55 #[.int .i64 n, .int .i64 a, .int .i64 b] w fun e w' => e = .returned (.bool (decide (a ≤ n) && decide (n ≤ b))) ∧ w = w' := by
  by_cases h1 : a ≤ n <;> by_cases h2 : n ≤ b
  all_goals
    go_enter Tryd.func55, Tryd.ntmps55
    go_wp2
    go_ret
    exact ⟨ret_bool (by simp [h1, h2]), rfl⟩

def okQty (n : Int) : Bool := decide (1 ≤ n) && decide (n ≤ 2147483647)
theorem iqty_any (n : Int) (w : World) : Calls Tryd.prog 54 #[.int .i64 n] w fun e w' => e = .returned (.bool (okQty n)) ∧ w = w' := by
  go_enter Tryd.func54, Tryd.ntmps54
  go_wp2_with fail
  refine (iwithin_any _ _ _ _).mono ?_
  rintro e w' ⟨rfl, rfl⟩
  go_wp2_with fail
  go_ret
  exact ⟨ret_bool rfl, rfl⟩

/-- The table of kinds. -/
def kindsTab : List Int := [0, 5, 13, 22, 2, 2, 2, 4, 1, 2]
def KindsAt (w : World) : Prop := ∀ i, i < 10 → w.cell? ⟨0, i, none⟩ = some (.int .i64 (kindsTab.getD i 0))
theorem KindsAt.lt {w : World} (h : KindsAt w) : 0 < w.heap.size := by
  have := h 0 (by decide)
  unfold World.cell? at this
  split at this
  · rename_i hb; exact lt_of_blk hb
  · cases this
theorem KindsAt.keep {S : Nat → Prop} {w w' : World} (h : KindsAt w) (f : Fr S w w') (hS : ¬ S 0) : KindsAt w' := fun i hi => by rw [f.cell (p := ⟨0, i, none⟩) h.lt hS]; exact h i hi
theorem KindsAt.keep0 {w w' : World} (h : KindsAt w) (f : Fr none' w w') : KindsAt w' := h.keep f id

/-- Has a kind this? -/
def hasK (k what : Int) : Bool := (decide (0 ≤ k) && decide (k < 10)) && (bits BinOp.and IntKind.i64 (kindsTab.getD k.toNat 0) what != 0)
set_option maxHeartbeats 1000000 in
theorem ihas_any (k what : Int) (w : World) (h : KindsAt w) : Calls Tryd.prog 53 #[.int .i64 k, .int .i64 what] w fun e w' => e = .returned (.bool (hasK k what)) ∧ w = w' := by
  by_cases h0 : 0 ≤ k
  · by_cases h1 : k < 10
    · have hh := Lib.hid h
      clear h
      rcases (show k = 0 ∨ k = 1 ∨ k = 2 ∨ k = 3 ∨ k = 4 ∨ k = 5 ∨ k = 6 ∨ k = 7 ∨ k = 8 ∨ k = 9 by omega) with rfl | rfl | rfl | rfl | rfl | rfl | rfl | rfl | rfl | rfl
      case inl => have c0 := hh.out 0 (by decide); simp only [kindsTab, List.getD_cons_zero, List.getD_cons_succ] at c0; go_enter Tryd.func53, Tryd.ntmps53; go_wp2; go_ret; exact ⟨ret_bool rfl, rfl⟩
      case inr.inl => have c0 := hh.out 1 (by decide); simp only [kindsTab, List.getD_cons_zero, List.getD_cons_succ] at c0; go_enter Tryd.func53, Tryd.ntmps53; go_wp2; go_ret; exact ⟨ret_bool rfl, rfl⟩
      case inr.inr.inl => have c0 := hh.out 2 (by decide); simp only [kindsTab, List.getD_cons_zero, List.getD_cons_succ] at c0; go_enter Tryd.func53, Tryd.ntmps53; go_wp2; go_ret; exact ⟨ret_bool rfl, rfl⟩
      case inr.inr.inr.inl => have c0 := hh.out 3 (by decide); simp only [kindsTab, List.getD_cons_zero, List.getD_cons_succ] at c0; go_enter Tryd.func53, Tryd.ntmps53; go_wp2; go_ret; exact ⟨ret_bool rfl, rfl⟩
      case inr.inr.inr.inr.inl => have c0 := hh.out 4 (by decide); simp only [kindsTab, List.getD_cons_zero, List.getD_cons_succ] at c0; go_enter Tryd.func53, Tryd.ntmps53; go_wp2; go_ret; exact ⟨ret_bool rfl, rfl⟩
      case inr.inr.inr.inr.inr.inl => have c0 := hh.out 5 (by decide); simp only [kindsTab, List.getD_cons_zero, List.getD_cons_succ] at c0; go_enter Tryd.func53, Tryd.ntmps53; go_wp2; go_ret; exact ⟨ret_bool rfl, rfl⟩
      case inr.inr.inr.inr.inr.inr.inl => have c0 := hh.out 6 (by decide); simp only [kindsTab, List.getD_cons_zero, List.getD_cons_succ] at c0; go_enter Tryd.func53, Tryd.ntmps53; go_wp2; go_ret; exact ⟨ret_bool rfl, rfl⟩
      case inr.inr.inr.inr.inr.inr.inr.inl => have c0 := hh.out 7 (by decide); simp only [kindsTab, List.getD_cons_zero, List.getD_cons_succ] at c0; go_enter Tryd.func53, Tryd.ntmps53; go_wp2; go_ret; exact ⟨ret_bool rfl, rfl⟩
      case inr.inr.inr.inr.inr.inr.inr.inr.inl => have c0 := hh.out 8 (by decide); simp only [kindsTab, List.getD_cons_zero, List.getD_cons_succ] at c0; go_enter Tryd.func53, Tryd.ntmps53; go_wp2; go_ret; exact ⟨ret_bool rfl, rfl⟩
      all_goals have c0 := hh.out 9 (by decide); simp only [kindsTab, List.getD_cons_zero, List.getD_cons_succ] at c0; go_enter Tryd.func53, Tryd.ntmps53; go_wp2; go_ret; exact ⟨ret_bool rfl, rfl⟩
    · clear h
      have e : hasK k what = false := by simp [hasK, h1]
      have E := Lib.hid e
      clear e
      go_enter Tryd.func53, Tryd.ntmps53
      go_wp2
      go_ret
      exact ⟨ret_bool E.out.symm, rfl⟩
  · clear h
    have e : hasK k what = false := by simp [hasK, h0]
    have E := Lib.hid e
    clear e
    go_enter Tryd.func53, Tryd.ntmps53
    go_wp2
    go_ret
    exact ⟨ret_bool E.out.symm, rfl⟩

def mayB (h is none : Bool) : Bool := if h then is else none
theorem imay_any (k what : Int) (is none : Bool) (b : Nat) (w : World) (h : KindsAt w) (hb : w.cell? ⟨b, 0, Option.none⟩ = some (.int .i64 k)) :
    Calls Tryd.prog 52 #[.int .i64 what, .bool is, .bool none, .pointer (some ⟨b, 0, Option.none⟩)] w fun e w' => e = .returned (.bool (mayB (hasK k what) is none)) ∧ w = w' := by
  have hh := Lib.hid (fun w (h : KindsAt w) => ihas_any k what w h)
  have hk := Lib.hid h
  clear h
  obtain ⟨r, hr⟩ : ∃ r, r = hasK k what := ⟨_, rfl⟩
  rw [← hr] at hh ⊢
  clear hr
  cases r <;> cases is <;> cases none
  all_goals
    go_enter Tryd.func52, Tryd.ntmps52
    go_wp2_with (go_at_call 53; refine (hh.out _ hk.out).mono ?_; rintro e w' ⟨rfl, rfl⟩)
    go_ret
    exact ⟨ret_bool rfl, rfl⟩

/-- Is a text a name? -/
def okName (s : ByteArray) : Bool := (decide (1 ≤ s.size) && decide (s.size ≤ 8)) && okAll s

theorem indexfunc_any (s : ByteArray) (w : World) (hs : s.size ≤ 140737488351232) :
    Calls Tryd.prog 67 #[.string s, .func (.func 65) #[] #[]] w fun e w' => ∃ r : Int, e = .returned (.int .i64 r) ∧ Hid ((r = -1 ∧ okAll s = true) ∨ (0 ≤ r ∧ okAll s = false)) ∧ -1 ≤ r ∧ Below w.heap.size w w' := by
  go_enter Tryd.func67, Tryd.ntmps67
  go_wp2_with fail
  refine (indexf_any _ _ hs).mono ?_
  rintro e w' ⟨r, rfl, h1, h2, hb⟩
  go_wp2_with fail
  go_ret
  exact ⟨r, rfl, h1, h2, hb⟩

theorem containsf_any (s : ByteArray) (w : World) (hs : s.size ≤ 140737488351232) :
    Calls Tryd.prog 66 #[.string s, .func (.func 65) #[] #[]] w fun e w' => e = .returned (.bool (!okAll s)) ∧ Fr none' w w' := by
  go_enter Tryd.func66, Tryd.ntmps66
  go_wp2_with fail
  refine (indexfunc_any _ _ hs).mono ?_
  rintro e w' ⟨r, rfl, h1, h2, hb⟩
  go_wp2_with fail
  go_ret
  refine ⟨ret_bool ?_, Fr.of_below hb⟩
  rcases h1.out with ⟨h, h'⟩ | ⟨h, h'⟩
  · rw [h', h]; rfl
  · rw [h']; simpa using h

theorem bytes_empty {s : ByteArray} (h : s.size = 0) : s = ⟨#[]⟩ := by
  obtain ⟨a⟩ := s
  congr 1
  exact Array.eq_empty_of_size_eq_zero h
theorem toList_size (s : ByteArray) : s.toList.length = s.size := by
  rw [ByteArray.toList_eq]; simp

theorem iname_any (s : ByteArray) (w : World) (hs : s.size ≤ 140737488351232) :
    Calls Tryd.prog 56 #[.string s] w fun e w' => e = .returned (.bool (okName s)) ∧ Fr none' w w' := by
  by_cases h0 : s.size = 0
  · have e := bytes_empty h0
    subst e
    clear h0 hs
    go_enter Tryd.func56, Tryd.ntmps56
    go_wp2
    go_ret
    exact ⟨ret_bool rfl, Fr.refl _ _⟩
  · have h1 : s.toList.isEmpty = false := by
      cases h : s.toList with
      | nil => have := toList_size s; rw [h] at this; exact absurd this.symm h0
      | cons a l => rfl
    by_cases h8 : s.size ≤ 8
    · have h8' : (s.size : Int) ≤ 8 := by omega
      have e : okName s = okAll s := by unfold okName; rw [decide_eq_true (by omega : 1 ≤ s.size), decide_eq_true h8]; rfl
      have E := Lib.hid e
      clear e h0
      go_enter Tryd.func56, Tryd.ntmps56
      go_wp2_with (go_at_call 66; refine (containsf_any _ _ hs).mono ?_; rintro e w' ⟨rfl, hf⟩)
      go_ret
      exact ⟨ret_bool (by rw [E.out]), hf⟩
    · have h8' : ¬ (s.size : Int) ≤ 8 := by omega
      have e : okName s = false := by unfold okName; rw [decide_eq_false h8]; simp
      have E := Lib.hid e
      clear e h0
      go_enter Tryd.func56, Tryd.ntmps56
      go_wp2_with fail
      go_ret
      exact ⟨ret_bool E.out.symm, Fr.refl _ _⟩

end Go.Proofs.YtmhicplhfbnpaaaDoor
