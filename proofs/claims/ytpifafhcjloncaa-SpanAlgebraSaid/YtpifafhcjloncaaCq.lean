/- What is proved: how the arguments of chapter 06's statements are read. Conditions: none. -/
import Derived.Test.YtpifafhcjloncaaBr
namespace Go.Proofs.Ytpifafhcjloncaa
open Go.RowKit Go.ChangeShapes Go.WideShapes Go.ChangeAt
set_option linter.unusedVariables false

theorem law_own : ownKnob Try.prog.godebug = none := by kernel_rfl
theorem law_laid : laidOutB Try.prog = true := by kernel_rfl
theorem cells_int64 : Try.prog.cellsOf 2 = 1 := by kernel_rfl

section opens
variable {X : Type} {enc : TypeId × Value → X} {w : World} {spare : Nat → Bool} {held : Bool}
theorem runR_of {n : Nat} {cs : List Value} {y : DataW X × List MemPlace} (h : DataW.trod enc Try.prog w 0 spare held n 48 cs = some y) (hk : cs.length = 2) : ∃ z : Int × Int, runR cs z := by
  obtain ⟨xs, m, -, -, -, hxl, hf⟩ := DataW.trod_array Try.underlying48 h
  match cs, hk, xs, hxl with
  | [c0, c1], _, [y0, y1], _ =>
    have h0 := hf 0 (by omega)
    have h1 := hf 1 (by omega)
    rw [cells_int64] at h0 h1
    simp only [Nat.zero_mul, Nat.one_mul, List.drop_zero, List.drop_succ_cons, List.take_succ_cons, List.take_zero, List.getElem?_cons_zero, List.getElem?_cons_succ] at h0 h1
    obtain ⟨a, ha, -, -⟩ := DataW.trod_int Try.underlying2 h0
    obtain ⟨b, hb, -, -⟩ := DataW.trod_int Try.underlying2 h1
    exact ⟨(a, b), by simp only [List.cons.injEq, and_true] at ha hb; simp [runR, ha, hb]⟩
theorem intR_of {n : Nat} {cs : List Value} {y : DataW X × List MemPlace} (h : DataW.trod enc Try.prog w 0 spare held n 2 cs = some y) : ∃ z : Int, intR cs z := by
  obtain ⟨a, ha, -, -⟩ := DataW.trod_int Try.underlying2 h
  exact ⟨a, ha⟩
end opens
end Go.Proofs.Ytpifafhcjloncaa
