/- What is proved: the statement SortedOf of chapter 01, for every input. Conditions: none. -/
import Derived.Test.YteffgknclbcpjaaQi
import Derived.Test.YteffgknclbcpjaaQk
namespace Go.Proofs.Yteffgknclbcpjaa
open Go.RowKit Go.ChangeShapes Go.WideShapes Go.ChangeAt
set_option linter.unusedVariables false
set_option linter.unusedSimpArgs false
set_option maxRecDepth 100000

theorem sortedOf_lifted (os : Os) (started : os.Started) (X : Type) (enc : TypeId × Value → X) :
    ReturnsInHanded {} Try.checked os 4 .any (Rows.sortedOfSpec.pre6 enc Try.prog Try.f4 Rows.sortedOfRow.domain false) (Rows.sortedOfSpec.post enc Try.prog Try.f4 false true false false) := by
  refine returnsInHanded_of_change (C := Try.checked) law_own started (by kernel_rfl) Try.func4
    (ChangeSpec.witness6 (enc := enc) (C := Try.checked) false ⟨#[], #[.slice none 0 0, .string ⟨#[]⟩, .int .i64 0], []⟩ 8 (by kernel_rfl) (by kernel_rfl) (by kernel_rfl) (by kernel_rfl)) ?_
  intro W base args ds gs before hval0 hW hcnd _
  refine contract_true (n := 3) law_laid rfl rfl (fun ds h => by match ds, h with | [_, _, _], _ => rfl) (by kernel_rfl) rfl Try.underlying4 hW ?_
  have hval : ∀ (j : Nat) t v, Try.f4.params[j]? = some t → args[j]? = some v → Value.okWide Try.prog W .any base t v := hval0
  clear hval0
  obtain ⟨p, q, hA0, -⟩ := hW
  have hA : DataW.TrodAll enc Try.prog W 0 (fun _ => true) true Try.f4.params.toList args.toList ds p := hA0
  clear hA0
  rw [Try.params4] at hA hval
  obtain ⟨v0, v1, v2, d0, d1, d2, p0, p1, p2, rfl, rfl, rfl, h0, h1, h2⟩ := trodAll_three hA
  obtain ⟨l, hl⟩ := acts_arg (hval 0 _ _ rfl rfl) h0
  obtain ⟨key, rfl⟩ := str_arg (hval 1 _ _ rfl rfl) h1
  obtain ⟨n, rfl, -⟩ := int_of Try.underlying3 (hval 2 _ _ rfl rfl) h2
  exact ⟨[_, _, _], rfl, fnp_of (lawOf_a l key n) (VL3 hl V_str0 V_i64)⟩
theorem sortedOf_proved : Rows.SortedOfSaid :=
  OpenClaim.holds_of_wide 4 Try.f4 rfl rfl rfl rfl rfl rfl rfl ⟨rfl, rfl, rfl, rfl, rfl⟩ rfl rfl rfl rfl rfl (by kernel_rfl) Try.func4 (by kernel_rfl)
    (of_decide_eq_true (by kernel_rfl)) (by unfold Func.isWrapper; first | (rw [if_pos (by decide +kernel)]; kernel_rfl) | (rw [if_neg (by decide +kernel)]; exact ⟨rfl, rfl⟩))
    (fun os started X enc _ => sortedOf_lifted os started X enc)
end Go.Proofs.Yteffgknclbcpjaa
