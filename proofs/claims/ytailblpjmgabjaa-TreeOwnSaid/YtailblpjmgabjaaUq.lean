/- What is proved: how texts and lists of texts are read as arguments. Conditions: none. -/
import Derived.Test.YtailblpjmgabjaaTq
import Derived.Test.YtailblpjmgabjaaTv
import Derived.SizedLaws
namespace Go.Proofs.Ytailblpjmgabjaa
open Go.RowKit Go.ChangeShapes Go.WideShapes Go.ChangeAt
set_option linter.unusedVariables false
set_option linter.unusedSimpArgs false
set_option maxRecDepth 100000
def strR (cs : List Value) (x : ByteArray) : Prop := cs = [.string x]
theorem V_strs {H : Hp} {a : Option Addr} {n c : Nat} {l : List ByteArray} (h : Sl H 1 strR a n c l) : V (Env.fz H) (lstE strE l) (.slice a n c) :=
  V_sl h fun cs x hx => by
    simp only [strR] at hx
    subst hx
    refine ⟨rfl, ?_⟩
    simp only [strE, VL, V]
    exact ⟨_, _, rfl, rfl, rfl⟩
theorem V_str0 {E : Env} {x : ByteArray} : V E (.str x) (.string x) := by simp only [V]
section opens
variable {X : Type} {enc : TypeId × Value → X} {w : World} {spare : Nat → Bool} {held : Bool}
theorem strR_of {n : Nat} {cs : List Value} {y : DataW X × List MemPlace} (h : DataW.trod enc Try.prog w 0 spare held n 9 cs = some y) : ∃ z : ByteArray, strR cs z := by
  obtain ⟨s, hs, -, -⟩ := DataW.trod_string Try.underlying9 h
  exact ⟨s, hs⟩
theorem str_arg {v : Value} {d : DataW X} {ps : List MemPlace} {r : Reach} {b0 : Nat} (hv : Value.okWide Try.prog w r b0 9 v) (h : DataW.Trod enc Try.prog w 0 spare held 9 v d ps) : ∃ s, v = .string s := by
  simp only [Value.okWide, Try.underlying9, Cell.okWide] at hv
  cases v <;> simp_all [Cell.ok]
end opens
end Go.Proofs.Ytailblpjmgabjaa
