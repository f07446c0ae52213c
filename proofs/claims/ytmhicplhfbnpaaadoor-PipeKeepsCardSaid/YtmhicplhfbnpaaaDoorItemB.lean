/-
  gimbal/item.Check, part one: names and numbers.
-/
import Derived.Test.YtmhicplhfbnpaaaDoorItemS
import Derived.Lib.OthersKept
import Derived.Lib.TrimU
import Derived.Deep.LoopGhost
import Derived.Laws.RangeString
import Derived.Laws.RangeAny
namespace Go.Proofs.YtmhicplhfbnpaaaDoor
set_option linter.unusedVariables false
set_option linter.unusedSimpArgs false
open Go.RowKit

def okByte (n : Nat) : Bool := (decide (97 ≤ n) && decide (n ≤ 122)) || (decide (48 ≤ n) && decide (n ≤ 57))
/-- All its bytes are small letters or digits. -/
def okAll (s : ByteArray) : Bool := s.data.toList.all fun b => okByte b.toNat
theorem okAll_iff (s : ByteArray) : okAll s = true ↔ ∀ i (h : i < s.size), okByte (s[i]'h).toNat = true := by
  unfold okAll
  rw [List.all_eq_true]
  constructor
  · intro h i hi
    exact h _ (by
      have : (s[i]'hi) = s.data.toList[i]'(by simpa using hi) := rfl
      rw [this]; exact List.getElem_mem _)
  · intro h b hb
    obtain ⟨i, hi, rfl⟩ := List.getElem_of_mem hb
    exact h i (by simpa using hi)

theorem odd_any (r : Nat) (w : World) : Calls Tryd.prog 65 #[.int .i32 (r : Int)] w fun e w' => e = .returned (.bool (!okByte r)) ∧ w' = w := by
  unfold okByte
  by_cases h1 : 97 ≤ r <;> by_cases h2 : r ≤ 122 <;> by_cases h3 : 48 ≤ r <;> by_cases h4 : r ≤ 57 <;> first | (exfalso; omega) | skip
  all_goals
    have z1 : (97 : Int) ≤ (r : Int) ↔ 97 ≤ r := by omega
    have z2 : (r : Int) ≤ 122 ↔ r ≤ 122 := by omega
    have z3 : (48 : Int) ≤ (r : Int) ↔ 48 ≤ r := by omega
    have z4 : (r : Int) ≤ 57 ↔ r ≤ 57 := by omega
    go_enter Tryd.func65, Tryd.ntmps65
    go_wp2
    all_goals first | (exfalso; omega) | (go_ret; exact ⟨by simp [h1, h2, h3, h4], rfl⟩)

/-- What the loop over a text knows. -/
def Seen (s : ByteArray) (pos : Nat) : Prop := ∀ i (h : i < s.size), i < pos → okByte (s[i]'h).toNat = true
theorem okByte_lt {n : Nat} (h : okByte n = true) : n < 128 := by
  unfold okByte at h
  simp at h
  omega

set_option maxHeartbeats 2000000 in
theorem indexf_any (s : ByteArray) (w : World) (hs : s.size ≤ 140737488351232) :
    Calls Tryd.prog 68 #[.string s, .func (.func 65) #[] #[], .bool true] w fun e w' => ∃ r : Int, e = .returned (.int .i64 r) ∧ Hid ((r = -1 ∧ okAll s = true) ∨ (0 ≤ r ∧ okAll s = false)) ∧ -1 ≤ r ∧ Below w.heap.size w w' := by
  go_enter Tryd.func68, Tryd.ntmps68
  go_wp2
  go_loopg [] s.size (fun gf wx => ∃ pos : Nat, wx.heap[w.heap.size]? = some (.stringIter s pos) ∧ Below w.heap.size w wx ∧ Seen s pos ∧ s.size ≤ pos + gf)
  case atStart => exact ⟨0, World.iter_heap w s 0, (Below.refl _ w).alloc (Nat.le_refl _) _, fun _ _ h => absurd h (by omega), by omega⟩
  case round =>
    obtain ⟨pos, hit, hbw, hseen, hfu⟩ := hrel
    have hseenh := Lib.hid hseen
    clear hseen
    by_cases hps : pos < s.size
    · obtain ⟨g', rfl⟩ : ∃ g', gk = g' + 1 := ⟨gk - 1, by omega⟩
      have hnx : ∀ ty, (Instr.next (.pointer (some ⟨w.heap.size, 0, none⟩)) true ty).run Tryd.prog wr = _ := fun ty => Lib.run_next_any_at wr w.heap.size s pos ty hit hps
      have hR : ((Utf8.decode s pos).1 = (s[pos]'hps).toNat ∧ (Utf8.decode s pos).2 = 1 ∧ (s[pos]'hps).toNat < 128) ∨ (128 ≤ (Utf8.decode s pos).1 ∧ 128 ≤ (s[pos]'hps).toNat) := by
        rcases Nat.lt_or_ge (s[pos]'hps).toNat 128 with h | h
        · rw [decode_ascii s pos hps h]; exact .inl ⟨rfl, rfl, h⟩
        · exact .inr ⟨(decode_high s pos hps h).1, h⟩
      obtain ⟨R, hRe⟩ : ∃ R, (Utf8.decode s pos).1 = R := ⟨_, rfl⟩
      obtain ⟨K, hKe⟩ : ∃ K, (Utf8.decode s pos).2 = K := ⟨_, rfl⟩
      rw [hRe, hKe] at hnx hR
      have hRh := Lib.hid hR
      have hit2 := Lib.iterAt_heap wr w.heap.size s pos (pos + K) hit
      have hbw2 := Lib.below_iterAt hbw (k := w.heap.size) (Nat.le_refl _) s (pos + K)
      obtain ⟨W, hWd⟩ : ∃ W, wr.iterAt w.heap.size s (pos + K) = W := ⟨_, rfl⟩
      rw [hWd] at hnx hit2 hbw2
      have hp := odd_any R
      have hph := Lib.hid hp
      clear hRe hKe hR hp
      rcases (show okByte R = true ∨ okByte R = false by cases okByte R <;> simp) with hk | hk
      · have hkh := Lib.hid hk
        clear hk
        go_wp2_with (go_at_call 65; refine (hph.out _).mono ?_; rintro e W' ⟨rfl, rfl⟩; rw [hkh.out])
        go_roundg g'
        case measure => omega
        case rel =>
          have h1 := okByte_lt hkh.out
          rcases hRh.out with ⟨e1, e2, e3⟩ | ⟨e1, e2⟩
          · subst e2
            exact ⟨pos + 1, hit2, hbw2, fun i h hi => by
              rcases Nat.lt_or_ge i pos with h' | h'
              · exact hseenh.out i h h'
              · obtain rfl : i = pos := by omega
                rw [← e1]; exact hkh.out, by omega⟩
          · omega
      · have hkh := Lib.hid hk
        clear hk
        go_wp2_with (go_at_call 65; refine (hph.out _).mono ?_; rintro e W' ⟨rfl, rfl⟩; rw [hkh.out])
        go_ret
        refine ⟨(pos : Int), rfl, Lib.hid (.inr ⟨by omega, ?_⟩), by omega, hbw2⟩
        cases hall : okAll s
        · rfl
        · exfalso
          have hb := (okAll_iff s).1 hall pos hps
          rcases hRh.out with ⟨e1, _⟩ | ⟨_, e2⟩
          · rw [← e1, hkh.out] at hb; cases hb
          · have := okByte_lt hb; omega
    · have hnx : ∀ ty, (Instr.next (.pointer (some ⟨w.heap.size, 0, none⟩)) true ty).run Tryd.prog wr = _ := fun ty => Lib.run_next_end_at wr w.heap.size s pos ty hit hps
      go_wp2
      go_ret
      exact ⟨-1, rfl, Lib.hid (.inl ⟨rfl, (okAll_iff s).2 (fun i h => hseenh.out i h (by omega))⟩), by omega, hbw⟩

end Go.Proofs.YtmhicplhfbnpaaaDoor
