/- What is proved: how the arguments of chapter 07's statements are read. Conditions: none. -/
import Derived.Test.YtklionofaknjcaaBr
import Derived.Test.YtklionofaknjcaaKq
import Derived.Deep.Strs
import Derived.Laws.IdiomArrays
namespace Go.Proofs.Ytklionofaknjcaa
open Go.RowKit Go.ChangeShapes Go.WideShapes Go.ChangeAt
set_option linter.unusedVariables false
set_option linter.unusedSimpArgs false
set_option maxRecDepth 100000

theorem law_own : ownKnob Try.prog.godebug = none := by kernel_rfl
theorem law_laid : laidOutB Try.prog = true := by kernel_rfl
theorem cells_int : Try.prog.cellsOf 3 = 1 := by kernel_rfl
theorem cells_int64 : Try.prog.cellsOf 2 = 1 := by kernel_rfl
theorem cells_dot : Try.prog.cellsOf 31 = 2 := by kernel_rfl
theorem cells_spn : Try.prog.cellsOf 37 = 3 := by kernel_rfl
theorem cells_vec : Try.prog.cellsOf 42 = 4 := by kernel_rfl
def dtR (cs : List Value) (x : Int × Int) : Prop := cs = [.int .i64 x.1, .int .i64 x.2]
def spR (cs : List Value) (x : Spn) : Prop := cs = [.int .i64 x.1, .int .i64 x.2.1, .int .i64 x.2.2]
theorem V_dots {H : Hp} {a : Option Addr} {n c : Nat} {l : List (Int × Int)} (h : Sl H 2 dtR a n c l) : V (Env.fz H) (lstE dtE l) (.slice a n c) :=
  V_sl h fun cs x hx => by
    simp only [dtR] at hx
    subst hx
    refine ⟨rfl, ?_⟩
    simp only [dtE, i64, VL, V]
    exact ⟨_, _, rfl, rfl, _, _, rfl, rfl, rfl⟩
theorem V_ctx {H : Hp} {a : Option Addr} {n c : Nat} {l : List Spn} (h : Sl H 3 spR a n c l) : V (Env.fz H) (lstE spE l) (.slice a n c) :=
  V_sl h fun cs x hx => by
    simp only [spR] at hx
    subst hx
    refine ⟨rfl, ?_⟩
    simp only [spE, i64, VL, V]
    exact ⟨_, _, rfl, rfl, _, _, rfl, rfl, _, _, rfl, rfl, rfl⟩
theorem V_dot {E : Env} {x : Int × Int} : V E (.agg [i64 x.1, i64 x.2]) (.agg #[.int .i64 x.1, .int .i64 x.2]) := by
  simp only [V]
  refine ⟨_, rfl, ?_⟩
  simp only [i64, VL, V]
  exact ⟨_, _, rfl, rfl, _, _, rfl, rfl, rfl⟩
theorem V_vec {E : Env} {v : Int → Int} : V E (.agg [i64 (v 0), i64 (v 1), i64 (v 2), i64 (v 3)]) (.agg #[.int .i64 (v 0), .int .i64 (v 1), .int .i64 (v 2), .int .i64 (v 3)]) := by
  simp only [V]
  refine ⟨_, rfl, ?_⟩
  simp only [i64, VL, V]
  exact ⟨_, _, rfl, rfl, _, _, rfl, rfl, _, _, rfl, rfl, _, _, rfl, rfl, rfl⟩
section opens
variable {X : Type} {enc : TypeId × Value → X} {w : World} {spare : Nat → Bool} {held : Bool}
theorem dtR_of {n : Nat} {cs : List Value} {y : DataW X × List MemPlace} (h : DataW.trod enc Try.prog w 0 spare held n 31 cs = some y) (hk : cs.length = 2) : ∃ z : Int × Int, dtR cs z := by
  obtain ⟨y0, y1, m, -, -, h0, h1⟩ := trod_struct2 Try.underlying31 h
  match cs, hk with
  | [c0, c1], _ =>
    obtain ⟨a, ha, -, -⟩ := DataW.trod_int Try.underlying3 h0
    obtain ⟨b, hb, -, -⟩ := DataW.trod_int Try.underlying2 h1
    exact ⟨(a, b), by simp [cells_int, cells_int64] at ha hb; simp [dtR, ha, hb]⟩
theorem spR_of {n : Nat} {cs : List Value} {y : DataW X × List MemPlace} (h : DataW.trod enc Try.prog w 0 spare held n 37 cs = some y) (hk : cs.length = 3) : ∃ z : Spn, spR cs z := by
  obtain ⟨y0, y1, y2, m, -, -, h0, h1, h2⟩ := Go.Deep.trod_struct3 Try.underlying37 h
  match cs, hk with
  | [c0, c1, c2], _ =>
    obtain ⟨a, ha, -, -⟩ := DataW.trod_int Try.underlying3 h0
    obtain ⟨b, hb, -, -⟩ := DataW.trod_int Try.underlying2 h1
    obtain ⟨c, hc, -, -⟩ := DataW.trod_int Try.underlying2 h2
    exact ⟨(a, b, c), by simp [cells_int, cells_int64] at ha hb hc; simp [spR, ha, hb, hc]⟩
theorem dot_arg {r : Reach} {b0 : Nat} {v : Value} {d : DataW X} {ps : List MemPlace} (hv : Value.okWide Try.prog w r b0 31 v) (h : DataW.Trod enc Try.prog w 0 spare held 31 v d ps) : ∃ x : Int × Int, v = .agg #[.int .i64 x.1, .int .i64 x.2] := by
  obtain ⟨cs, rfl, hsz⟩ := okWide_struct Try.underlying31 hv
  obtain ⟨fuel, hf⟩ := h
  obtain ⟨z, hz⟩ := dtR_of hf (by rw [cells_dot] at hsz; simpa [Value.cells] using hsz)
  exact ⟨z, by simp [Value.cells, dtR] at hz; simp [← hz]⟩
theorem vec_arg {r : Reach} {b0 : Nat} {v : Value} {d : DataW X} {ps : List MemPlace} (hv : Value.okWide Try.prog w r b0 42 v) (h : DataW.Trod enc Try.prog w 0 spare held 42 v d ps) : ∃ x : Int → Int, v = .agg #[.int .i64 (x 0), .int .i64 (x 1), .int .i64 (x 2), .int .i64 (x 3)] := by
  obtain ⟨cs, rfl, hsz⟩ : ∃ cs, v = .agg cs ∧ cs.size = Try.prog.cellsOf 42 := by
    simp only [Value.okWide, Try.underlying42] at hv
    obtain ⟨cs, h1, h2, _⟩ := hv
    exact ⟨cs, h1, h2⟩
  obtain ⟨fuel, hf⟩ := h
  have hf : DataW.trod enc Try.prog w 0 spare held fuel 42 cs.toList = some (d, ps) := by simpa [Value.cells] using hf
  obtain ⟨l⟩ := cs
  match l, hsz with
  | [c0, c1, c2, c3], _ =>
    obtain ⟨y0, y1, y2, y3, m, -, h0, h1, h2, h3⟩ := trod_array4 Try.underlying42 cells_int64 hf
    obtain ⟨a, ha, -, -⟩ := DataW.trod_int Try.underlying2 h0
    obtain ⟨b, hb, -, -⟩ := DataW.trod_int Try.underlying2 h1
    obtain ⟨c, hc, -, -⟩ := DataW.trod_int Try.underlying2 h2
    obtain ⟨e, he, -, -⟩ := DataW.trod_int Try.underlying2 h3
    cases ha; cases hb; cases hc; cases he
    exact ⟨fun i => if i = 0 then a else if i = 1 then b else if i = 2 then c else e, rfl⟩
end opens
end Go.Proofs.Ytklionofaknjcaa
