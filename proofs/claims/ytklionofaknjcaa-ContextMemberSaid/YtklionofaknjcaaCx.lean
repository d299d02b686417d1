/- What is proved: the statement ContextMember of chapter 07, for every input. Conditions: none. -/
import Derived.Test.YtklionofaknjcaaCk
import Derived.Test.YtklionofaknjcaaKx
namespace Go.Proofs.Ytklionofaknjcaa
open Go.RowKit Go.ChangeShapes Go.WideShapes Go.ChangeAt
set_option linter.unusedVariables false
set_option linter.unusedSimpArgs false
set_option maxRecDepth 100000

theorem contextMember_lifted (os : Os) (started : os.Started) (X : Type) (enc : TypeId × Value → X) :
    ReturnsInHanded {} Try.checked os 10 .any (Rows.contextMemberSpec.pre6 enc Try.prog Try.f10 Rows.contextMemberRow.domain false) (Rows.contextMemberSpec.post enc Try.prog Try.f10 false true false false) := by
  refine returnsInHanded_of_change (C := Try.checked) law_own started (by kernel_rfl) Try.func10
    (ChangeSpec.witness6 (enc := enc) (C := Try.checked) false ⟨#[], #[.slice none 0 0, .slice none 0 0, .agg #[.int .i64 0, .int .i64 0]], []⟩ 8 (by kernel_rfl) (by kernel_rfl) (by kernel_rfl) (by kernel_rfl)) ?_
  intro W base args ds gs before hval0 hW hcnd _
  refine contract_true (n := 3) law_laid rfl rfl (fun ds h => by match ds, h with | [_, _, _], _ => rfl) (by kernel_rfl) rfl Try.underlying4 hW ?_
  have hval : ∀ (j : Nat) t v, Try.f10.params[j]? = some t → args[j]? = some v → Value.okWide Try.prog W .any base t v := hval0
  clear hval0
  obtain ⟨p, q, hA0, -⟩ := hW
  have hA : DataW.TrodAll enc Try.prog W 0 (fun _ => true) true Try.f10.params.toList args.toList ds p := hA0
  clear hA0
  rw [Try.params10] at hA hval
  obtain ⟨v0, v1, v2, d0, d1, d2, p0, p1, p2, rfl, rfl, rfl, h0, h1, h2⟩ := trodAll_three hA
  obtain ⟨a0, n0, c0, l0, rfl, hS0⟩ := sl_arg (R := spR) (k := 3) Try.underlying25 (by kernel_rfl) (hval 0 _ _ rfl rfl) h0 (fun n cs y h hk => spR_of h hk)
  obtain ⟨a1, n1, c1, l1, rfl, hS1⟩ := sl_arg (R := spR) (k := 3) Try.underlying25 (by kernel_rfl) (hval 1 _ _ rfl rfl) h1 (fun n cs y h hk => spR_of h hk)
  obtain ⟨x2, rfl⟩ := dot_arg (hval 2 _ _ rfl rfl) h2
  exact ⟨[_, _, _], rfl, fnp_of (lawMemberC_a l0 l1 x2) (VL3 (V_ctx hS0) (V_ctx hS1) V_dot)⟩
theorem contextMember_proved : Rows.ContextMemberSaid :=
  OpenClaim.holds_of_wide 10 Try.f10 rfl rfl rfl rfl rfl rfl rfl ⟨rfl, rfl, rfl, rfl, rfl⟩ rfl rfl rfl rfl rfl (by kernel_rfl) Try.func10 (by kernel_rfl)
    (of_decide_eq_true (by kernel_rfl)) (by unfold Func.isWrapper; first | (rw [if_pos (by decide +kernel)]; kernel_rfl) | (rw [if_neg (by decide +kernel)]; exact ⟨rfl, rfl⟩))
    (fun os started X enc _ => contextMember_lifted os started X enc)

end Go.Proofs.Ytklionofaknjcaa
