/- What is proved: the statement SortedLater of chapter 01, for every input. Conditions: none. -/
import Derived.Test.YteffgknclbcpjaaQi
import Derived.Test.YteffgknclbcpjaaQr
namespace Go.Proofs.Yteffgknclbcpjaa
open Go.RowKit Go.ChangeShapes Go.WideShapes Go.ChangeAt
set_option linter.unusedVariables false
set_option linter.unusedSimpArgs false
set_option maxRecDepth 100000

theorem sortedLater_lifted (os : Os) (started : os.Started) (X : Type) (enc : TypeId × Value → X) :
    ReturnsInHanded {} Try.checked os 7 .any (Rows.sortedLaterSpec.pre6 enc Try.prog Try.f7 Rows.sortedLaterRow.domain false) (Rows.sortedLaterSpec.post enc Try.prog Try.f7 false true false false) := by
  refine returnsInHanded_of_change (C := Try.checked) law_own started (by kernel_rfl) Try.func7
    (ChangeSpec.witness6 (enc := enc) (C := Try.checked) false ⟨#[], #[.slice none 0 0, .slice none 0 0], []⟩ 8 (by kernel_rfl) (by kernel_rfl) (by kernel_rfl) (by kernel_rfl)) ?_
  intro W base args ds gs before hval0 hW hcnd _
  refine contract_true (n := 2) law_laid rfl rfl (fun ds h => by match ds, h with | [_, _], _ => rfl) (by kernel_rfl) rfl Try.underlying4 hW ?_
  have hval : ∀ (j : Nat) t v, Try.f7.params[j]? = some t → args[j]? = some v → Value.okWide Try.prog W .any base t v := hval0
  clear hval0
  obtain ⟨p, q, hA0, -⟩ := hW
  have hA : DataW.TrodAll enc Try.prog W 0 (fun _ => true) true Try.f7.params.toList args.toList ds p := hA0
  clear hA0
  rw [Try.params7] at hA hval
  obtain ⟨v0, v1, d0, d1, p0, p1, rfl, rfl, rfl, h0, h1⟩ := trodAll_two hA
  obtain ⟨a, ha⟩ := acts_arg (hval 0 _ _ rfl rfl) h0
  obtain ⟨b, hb⟩ := acts_arg (hval 1 _ _ rfl rfl) h1
  exact ⟨[_, _], rfl, fnp_of (lawLater_a a b) (VL2 ha hb)⟩
theorem sortedLater_proved : Rows.SortedLaterSaid :=
  OpenClaim.holds_of_wide 7 Try.f7 rfl rfl rfl rfl rfl rfl rfl ⟨rfl, rfl, rfl, rfl, rfl⟩ rfl rfl rfl rfl rfl (by kernel_rfl) Try.func7 (by kernel_rfl)
    (of_decide_eq_true (by kernel_rfl)) (by unfold Func.isWrapper; first | (rw [if_pos (by decide +kernel)]; kernel_rfl) | (rw [if_neg (by decide +kernel)]; exact ⟨rfl, rfl⟩))
    (fun os started X enc _ => sortedLater_lifted os started X enc)
end Go.Proofs.Yteffgknclbcpjaa
