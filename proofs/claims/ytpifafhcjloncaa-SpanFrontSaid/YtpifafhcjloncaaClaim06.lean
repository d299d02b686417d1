/- What is proved: the statements SpanRight and SpanHas of chapter 06, for every input. Conditions: none. -/
import Derived.Test.YtpifafhcjloncaaBridge
import Derived.Test.YtpifafhcjloncaaLaw06
import Derived.Test.YtpifafhcjloncaaHas
namespace Go.Proofs.Ytpifafhcjloncaa
open Go.RowKit Go.ChangeShapes Go.WideShapes Go.ChangeAt
set_option linter.unusedVariables false

theorem law_own : ownKnob Try.prog.godebug = none := by kernel_rfl
theorem law_laid : laidOutB Try.prog = true := by kernel_rfl
theorem cells_int64 : Try.prog.cellsOf 2 = 1 := by kernel_rfl

section opens
variable {X : Type} {enc : TypeId × Value → X} {w : World} {spare : Nat → Bool} {held : Bool}
theorem runR_of {n : Nat} {cs : List Value} {y : DataW X × List MemPlace} (h : DataW.trod enc Try.prog w 0 spare held n 48 cs = some y) (hk : cs.length = 2) : ∃ z : Int × Int, runR cs z := by
  obtain ⟨xs, m, -, -, -, hxl, hf⟩ := DataW.trod_array Try.underlying48 h
  match cs, hk, xs, hxl with
  | [c0, c1], _, [y0, y1], _ =>
    have h0 := hf 0 (by omega)
    have h1 := hf 1 (by omega)
    rw [cells_int64] at h0 h1
    simp only [Nat.zero_mul, Nat.one_mul, List.drop_zero, List.drop_succ_cons, List.take_succ_cons, List.take_zero, List.getElem?_cons_zero, List.getElem?_cons_succ] at h0 h1
    obtain ⟨a, ha, -, -⟩ := DataW.trod_int Try.underlying2 h0
    obtain ⟨b, hb, -, -⟩ := DataW.trod_int Try.underlying2 h1
    exact ⟨(a, b), by simp only [List.cons.injEq, and_true] at ha hb; simp [runR, ha, hb]⟩
end opens

theorem spanRight_lifted (os : Os) (started : os.Started) (X : Type) (enc : TypeId × Value → X) :
    ReturnsInHanded {} Try.checked os 5 .any (Rows.spanRightSpec.pre6 enc Try.prog Try.f5 Rows.spanRightRow.domain false) (Rows.spanRightSpec.post enc Try.prog Try.f5 false true false false) := by
  refine returnsInHanded_of_change (C := Try.checked) law_own started (by kernel_rfl) Try.func5
    (ChangeSpec.witness6 (enc := enc) (C := Try.checked) false ⟨#[], #[.slice none 0 0], []⟩ 8 (by kernel_rfl) (by kernel_rfl) (by kernel_rfl) (by kernel_rfl)) ?_
  intro W base args ds gs before hval0 hW hcnd _
  refine contract_true (n := 1) law_laid rfl rfl (fun ds h => by match ds, h with | [_], _ => rfl) (by kernel_rfl) rfl Try.underlying4 hW ?_
  have hval : ∀ (j : Nat) t v, Try.f5.params[j]? = some t → args[j]? = some v → Value.okWide Try.prog W .any base t v := hval0
  clear hval0
  obtain ⟨p, q, hA0, -⟩ := hW
  have hA : DataW.TrodAll enc Try.prog W 0 (fun _ => true) true Try.f5.params.toList args.toList ds p := hA0
  clear hA0
  rw [Try.params5] at hA hval
  obtain ⟨v0, vs0, d0, ds0, p0, q0, hargs, rfl, rfl, h0, r0⟩ := trodAll_cons hA
  obtain ⟨rfl, rfl, rfl⟩ := trodAll_nil r0
  obtain rfl : args = #[v0] := by cases args; simp_all
  obtain ⟨a, n, c, l, rfl, hS⟩ := sl_arg (R := runR) (k := 2) Try.underlying29 (by kernel_rfl) (hval 0 _ _ rfl rfl) h0 (fun n cs y h hk => runR_of h hk)
  exact ⟨[_], rfl, lawSpanRight_c _ hS⟩
theorem spanRight_proved : Rows.SpanRightSaid :=
  OpenClaim.holds_of_wide 5 Try.f5 rfl rfl rfl rfl rfl rfl rfl ⟨rfl, rfl, rfl, rfl, rfl⟩ rfl rfl rfl rfl rfl (by kernel_rfl) Try.func5 (by kernel_rfl)
    (of_decide_eq_true (by kernel_rfl)) (by unfold Func.isWrapper; first | (rw [if_pos (by decide +kernel)]; kernel_rfl) | (rw [if_neg (by decide +kernel)]; exact ⟨rfl, rfl⟩))
    (fun os started X enc _ => spanRight_lifted os started X enc)

theorem spanHas_lifted (os : Os) (started : os.Started) (X : Type) (enc : TypeId × Value → X) :
    ReturnsInHanded {} Try.checked os 4 .any (Rows.spanHasSpec.pre6 enc Try.prog Try.f4 Rows.spanHasRow.domain false) (Rows.spanHasSpec.post enc Try.prog Try.f4 false true false false) := by
  refine returnsInHanded_of_change (C := Try.checked) law_own started (by kernel_rfl) Try.func4
    (ChangeSpec.witness6 (enc := enc) (C := Try.checked) false ⟨#[], #[.slice none 0 0, .int .i64 0], []⟩ 8 (by kernel_rfl) (by kernel_rfl) (by kernel_rfl) (by kernel_rfl)) ?_
  intro W base args ds gs before hval0 hW hcnd _
  refine contract_true (n := 2) law_laid rfl rfl (fun ds h => by match ds, h with | [_, _], _ => rfl) (by kernel_rfl) rfl Try.underlying4 hW ?_
  have hval : ∀ (j : Nat) t v, Try.f4.params[j]? = some t → args[j]? = some v → Value.okWide Try.prog W .any base t v := hval0
  clear hval0
  obtain ⟨p, q, hA0, -⟩ := hW
  have hA : DataW.TrodAll enc Try.prog W 0 (fun _ => true) true Try.f4.params.toList args.toList ds p := hA0
  clear hA0
  rw [Try.params4] at hA hval
  obtain ⟨v0, v1, d0, d1, p0, p1, rfl, rfl, rfl, h0, h1⟩ := trodAll_two hA
  obtain ⟨a, n, c, l, rfl, hS⟩ := sl_arg (R := runR) (k := 2) Try.underlying29 (by kernel_rfl) (hval 0 _ _ rfl rfl) h0 (fun n cs y h hk => runR_of h hk)
  obtain ⟨y, rfl, -⟩ := int_of Try.underlying2 (hval 1 _ _ rfl rfl) h1
  exact ⟨[_, _], rfl, lawSpanHas_c _ hS y⟩
theorem spanHas_proved : Rows.SpanHasSaid :=
  OpenClaim.holds_of_wide 4 Try.f4 rfl rfl rfl rfl rfl rfl rfl ⟨rfl, rfl, rfl, rfl, rfl⟩ rfl rfl rfl rfl rfl (by kernel_rfl) Try.func4 (by kernel_rfl)
    (of_decide_eq_true (by kernel_rfl)) (by unfold Func.isWrapper; first | (rw [if_pos (by decide +kernel)]; kernel_rfl) | (rw [if_neg (by decide +kernel)]; exact ⟨rfl, rfl⟩))
    (fun os started X enc _ => spanHas_lifted os started X enc)
end Go.Proofs.Ytpifafhcjloncaa
