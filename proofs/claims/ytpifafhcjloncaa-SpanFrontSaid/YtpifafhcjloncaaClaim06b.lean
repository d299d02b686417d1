/- What is proved: the statement SpanFront of chapter 06, for every input. Conditions: none. -/
import Derived.Test.YtpifafhcjloncaaClaim06
import Derived.Test.YtpifafhcjloncaaFront
namespace Go.Proofs.Ytpifafhcjloncaa
open Go.RowKit Go.ChangeShapes Go.WideShapes Go.ChangeAt
set_option linter.unusedVariables false

theorem spanFront_lifted (os : Os) (started : os.Started) (X : Type) (enc : TypeId × Value → X) :
    ReturnsInHanded {} Try.checked os 6 .any (Rows.spanFrontSpec.pre6 enc Try.prog Try.f6 Rows.spanFrontRow.domain false) (Rows.spanFrontSpec.post enc Try.prog Try.f6 false true false false) := by
  refine returnsInHanded_of_change (C := Try.checked) law_own started (by kernel_rfl) Try.func6
    (ChangeSpec.witness6 (enc := enc) (C := Try.checked) false ⟨#[], #[.slice none 0 0, .int .i64 0], []⟩ 8 (by kernel_rfl) (by kernel_rfl) (by kernel_rfl) (by kernel_rfl)) ?_
  intro W base args ds gs before hval0 hW hcnd _
  refine contract_true (n := 2) law_laid rfl rfl (fun ds h => by match ds, h with | [_, _], _ => rfl) (by kernel_rfl) rfl Try.underlying4 hW ?_
  have hval : ∀ (j : Nat) t v, Try.f6.params[j]? = some t → args[j]? = some v → Value.okWide Try.prog W .any base t v := hval0
  clear hval0
  obtain ⟨p, q, hA0, -⟩ := hW
  have hA : DataW.TrodAll enc Try.prog W 0 (fun _ => true) true Try.f6.params.toList args.toList ds p := hA0
  clear hA0
  rw [Try.params6] at hA hval
  obtain ⟨v0, v1, d0, d1, p0, p1, rfl, rfl, rfl, h0, h1⟩ := trodAll_two hA
  obtain ⟨a, n, c, l, rfl, hS⟩ := sl_arg (R := runR) (k := 2) Try.underlying29 (by kernel_rfl) (hval 0 _ _ rfl rfl) h0 (fun n cs y h hk => runR_of h hk)
  obtain ⟨y, rfl, -⟩ := int_of Try.underlying2 (hval 1 _ _ rfl rfl) h1
  exact ⟨[_, _], rfl, lawSpanFront_c _ hS y⟩
theorem spanFront_proved : Rows.SpanFrontSaid :=
  OpenClaim.holds_of_wide 6 Try.f6 rfl rfl rfl rfl rfl rfl rfl ⟨rfl, rfl, rfl, rfl, rfl⟩ rfl rfl rfl rfl rfl (by kernel_rfl) Try.func6 (by kernel_rfl)
    (of_decide_eq_true (by kernel_rfl)) (by unfold Func.isWrapper; first | (rw [if_pos (by decide +kernel)]; kernel_rfl) | (rw [if_neg (by decide +kernel)]; exact ⟨rfl, rfl⟩))
    (fun os started X enc _ => spanFront_lifted os started X enc)
end Go.Proofs.Ytpifafhcjloncaa
