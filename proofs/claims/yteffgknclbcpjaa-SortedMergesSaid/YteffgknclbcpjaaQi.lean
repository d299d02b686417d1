/- What is proved: how the arguments of chapter 01's statements are read. Conditions: none. -/
import Derived.Test.YteffgknclbcpjaaBr
import Derived.Test.YteffgknclbcpjaaQb
import Derived.Deep.Strs
namespace Go.Proofs.Yteffgknclbcpjaa
open Go.RowKit Go.ChangeShapes Go.WideShapes Go.ChangeAt
set_option linter.unusedVariables false
set_option linter.unusedSimpArgs false
set_option maxRecDepth 100000
theorem law_own : ownKnob Try.prog.godebug = none := by kernel_rfl
theorem law_laid : laidOutB Try.prog = true := by kernel_rfl
theorem cells_int : Try.prog.cellsOf 3 = 1 := by kernel_rfl
theorem cells_bool : Try.prog.cellsOf 4 = 1 := by kernel_rfl
theorem cells_string : Try.prog.cellsOf 9 = 1 := by kernel_rfl
theorem cells_act : Try.prog.cellsOf 29 = 3 := by kernel_rfl
def actR (cs : List Value) (x : Act1) : Prop := cs = [.string x.1, .int .i64 x.2.1, .bool x.2.2]
theorem V_acts {H : Hp} {a : Option Addr} {n c : Nat} {l : List Act1} (h : Sl H 3 actR a n c l) : V (Env.fz H) (lstE actE l) (.slice a n c) :=
  V_sl h fun cs x hx => by
    simp only [actR] at hx
    subst hx
    refine ⟨rfl, ?_⟩
    simp only [actE, i64, VL, V]
    exact ⟨_, _, rfl, rfl, _, _, rfl, rfl, _, _, rfl, rfl, rfl⟩
theorem V_str0 {E : Env} {x : ByteArray} : V E (.str x) (.string x) := by simp only [V]
section opens
variable {X : Type} {enc : TypeId × Value → X} {w : World} {spare : Nat → Bool} {held : Bool}
theorem actR_of {n : Nat} {cs : List Value} {y : DataW X × List MemPlace} (h : DataW.trod enc Try.prog w 0 spare held n 29 cs = some y) (hk : cs.length = 3) : ∃ z : Act1, actR cs z := by
  obtain ⟨y0, y1, y2, m, -, -, h0, h1, h2⟩ := Go.Deep.trod_struct3 Try.underlying29 h
  match cs, hk with
  | [c0, c1, c2], _ =>
    obtain ⟨a, ha, -, -⟩ := DataW.trod_string Try.underlying9 h0
    obtain ⟨b, hb, -, -⟩ := DataW.trod_int Try.underlying3 h1
    obtain ⟨c, hc, -, -⟩ := DataW.trod_bool Try.underlying4 h2
    exact ⟨(a, b, c), by simp [cells_int, cells_bool, cells_string] at ha hb hc; simp [actR, ha, hb, hc]⟩
theorem str_arg {v : Value} {d : DataW X} {ps : List MemPlace} {r : Reach} {b0 : Nat} (hv : Value.okWide Try.prog w r b0 9 v) (h : DataW.Trod enc Try.prog w 0 spare held 9 v d ps) : ∃ s, v = .string s := by
  simp only [Value.okWide, Try.underlying9, Cell.okWide] at hv
  cases v <;> simp_all [Cell.ok]
theorem acts_arg {v : Value} {d : DataW X} {ps : List MemPlace} {r : Reach} {b0 : Nat} (hv : Value.okWide Try.prog w r b0 22 v) (h : DataW.Trod enc Try.prog w 0 spare held 22 v d ps) : ∃ l : List Act1, V (Env.fz (hp w)) (lstE actE l) v := by
  obtain ⟨a, n, c, l, rfl, hS⟩ := sl_arg (R := actR) (k := 3) Try.underlying22 cells_act hv h (fun n cs y h hk => actR_of h hk)
  exact ⟨l, V_acts hS⟩
end opens
end Go.Proofs.Yteffgknclbcpjaa
