/-
  A list of Do that comes in.
-/
import Derived.Test.YtnflppgmccddoaaS
import Derived.Test.YtnflppgmccddoaaOpen
namespace Go.Proofs.Ytnflppgmccddoaa
set_option linter.unusedVariables false
open Go.ChangeShapes Go.WideShapes Go.ChangeAt Go.RowKit Go.Deep

/-- A call, as it comes in. -/
structure Doing where
  kind : Int
  num : Int
  v : Value
  B : List UInt8
  raw : Bool

def Doing.cells (d : Doing) : List Value := [.int .i64 d.kind, .int .i64 d.num, d.v, .bool d.raw]
def Doing.ok (W : World) (d : Doing) : Prop := Bytes W d.v d.B ∧ d.B.length ≤ 9223372036854775807 ∧ -9223372036854775808 ≤ d.num ∧ d.num ≤ 9223372036854775807

theorem do_trod {H : Type} {enc : TypeId × Value → H} {W : World} (n : Nat) (cs : List Value) (x : DataW H × List MemPlace) (h : DataW.trod enc Try.prog W 0 (fun _ => true) true n 29 cs = some x) : ∃ m : Doing, cs = m.cells ∧ m.ok W := by
  obtain ⟨xs, m, _, _, hl, hlen, hf⟩ := DataW.trod_struct Try.underlying29 h
  have h29 : Try.prog.cellsOf 29 = 4 := by kernel_rfl
  have h3 : Try.prog.cellsOf 3 = 1 := by kernel_rfl
  have h4 : Try.prog.cellsOf 4 = 1 := by kernel_rfl
  have h27 : Try.prog.cellsOf 27 = 1 := by kernel_rfl
  have h5 : Try.prog.cellsOf 5 = 1 := by kernel_rfl
  rw [h29] at hl
  match cs, hl, xs, hlen with
  | [c0, c1, c2, c3], _, [y0, y1, y2, y3], _ =>
    have e0 := hf 0 _ rfl
    have e1 := hf 1 _ rfl
    have e2 := hf 2 _ rfl
    have e3 := hf 3 _ rfl
    simp [h3, h4, h27] at e0 e1 e2 e3
    obtain ⟨k, g0, _, _⟩ := DataW.trod_int Try.underlying3 e0
    obtain ⟨n, g1, _, w1⟩ := DataW.trod_int Try.underlying3 e1
    obtain ⟨v, B, g2, hB, hBl⟩ := bytes_trod Try.underlying27 Try.underlying5 h5 e2
    obtain ⟨r, g3, _⟩ := DataW.trod_bool Try.underlying4 e3
    simp only [List.cons.injEq, and_true] at g0 g1 g2 g3
    exact ⟨⟨k, n, v, B, r⟩, by rw [g0, g1, g2, g3]; rfl, hB, hBl, wf_i64_bounds w1⟩

theorem dos_arg {H : Type} {enc : TypeId × Value → H} {W : World} {b0 : Nat} {r : Reach} {v : Value} {d : DataW H} {ps : List MemPlace} (hval : Value.okWide Try.prog W r b0 22 v) (hd : DataW.Trod enc Try.prog W 0 (fun _ => true) true 22 v d ps) :
    ∃ a cap, ∃ xs : List Doing, v = .slice a xs.length cap ∧ xs.length ≤ 9223372036854775807 ∧ Sl W (.slice a xs.length cap) 4 xs.length (xs.flatMap Doing.cells) ∧ ∀ m ∈ xs, m.ok W ∧ m.cells.length = 4 :=
  rows_arg Doing.cells (Doing.ok W) Try.underlying22 (by kernel_rfl) (by decide) do_trod hval hd

/-- Element k of a row of calls. -/
theorem dos_elem {w : World} {a : Option Addr} {c : Nat} {xs : List Doing} (h : Sl w (.slice a xs.length c) 4 xs.length (xs.flatMap Doing.cells)) (k : Nat) (hk : k < xs.length) :
    ∃ b off, a = some ⟨b, off, none⟩ ∧ b < w.heap.size ∧ ∀ o u, xs[k].cells[o]? = some u → w.cell? ⟨b, off + (k * 4 + o), none⟩ = some u := by
  obtain ⟨ao, cap, e, h1, h2, h3, h4⟩ := h
  injection e with e1 e2 e3
  subst e1; subst e3
  obtain ⟨g, off, rfl, hg, hc⟩ := h4 (by omega)
  refine ⟨g, off, rfl, hg (by decide), fun o u hu => hc _ _ ?_⟩
  have ho : o < 4 := by
    rcases Nat.lt_or_ge o 4 with h | h
    · exact h
    · rw [List.getElem?_eq_none (by simp [Doing.cells]; omega)] at hu; cases hu
  rw [getElem?_flatMap Doing.cells 4 (by decide) xs (fun _ _ => rfl)]
  rw [show (k * 4 + o) / 4 = k by omega, show (k * 4 + o) % 4 = o by omega, List.getElem?_eq_getElem hk]
  exact hu

end Go.Proofs.Ytnflppgmccddoaa
