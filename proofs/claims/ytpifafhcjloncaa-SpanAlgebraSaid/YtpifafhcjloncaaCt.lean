/- What is proved: the statements SpanAdds, SpanAlgebra of chapter 06, for every input. Conditions: none. -/
import Derived.Test.YtpifafhcjloncaaCq
import Derived.Test.YtpifafhcjloncaaLd
namespace Go.Proofs.Ytpifafhcjloncaa
open Go.RowKit Go.ChangeShapes Go.WideShapes Go.ChangeAt
set_option linter.unusedVariables false

theorem spanAdds_lifted (os : Os) (started : os.Started) (X : Type) (enc : TypeId × Value → X) :
    ReturnsInHanded {} Try.checked os 7 .any (Rows.spanAddsSpec.pre6 enc Try.prog Try.f7 Rows.spanAddsRow.domain false) (Rows.spanAddsSpec.post enc Try.prog Try.f7 false true false false) := by
  refine returnsInHanded_of_change (C := Try.checked) law_own started (by kernel_rfl) Try.func7
    (ChangeSpec.witness6 (enc := enc) (C := Try.checked) false ⟨#[], #[.slice none 0 0, .int .i64 0, .int .i64 0], []⟩ 8 (by kernel_rfl) (by kernel_rfl) (by kernel_rfl) (by kernel_rfl)) ?_
  intro W base args ds gs before hval0 hW hcnd _
  refine contract_true (n := 3) law_laid rfl rfl (fun ds h => by match ds, h with | [_, _, _], _ => rfl) (by kernel_rfl) rfl Try.underlying4 hW ?_
  have hval : ∀ (j : Nat) t v, Try.f7.params[j]? = some t → args[j]? = some v → Value.okWide Try.prog W .any base t v := hval0
  clear hval0
  obtain ⟨p, q, hA0, -⟩ := hW
  have hA : DataW.TrodAll enc Try.prog W 0 (fun _ => true) true Try.f7.params.toList args.toList ds p := hA0
  clear hA0
  rw [Try.params7] at hA hval
  obtain ⟨v0, vs0, d0, ds0, p0, q0, hargs, rfl, rfl, h0, r0⟩ := trodAll_cons hA
  obtain ⟨v1, vs1, d1, ds1, p1, q1, rfl, rfl, rfl, h1, r1⟩ := trodAll_cons r0
  obtain ⟨v2, vs2, d2, ds2, p2, q2, rfl, rfl, rfl, h2, r2⟩ := trodAll_cons r1
  obtain ⟨rfl, rfl, rfl⟩ := trodAll_nil r2
  obtain rfl : args = #[v0, v1, v2] := by cases args; simp_all
  obtain ⟨a0, n0, c0, l0, rfl, hS0⟩ := sl_arg (R := runR) (k := 2) Try.underlying29 (by kernel_rfl) (hval 0 _ _ rfl rfl) h0 (fun n cs y h hk => runR_of h hk)
  obtain ⟨y1, rfl, -⟩ := int_of Try.underlying2 (hval 1 _ _ rfl rfl) h1
  obtain ⟨y2, rfl, -⟩ := int_of Try.underlying2 (hval 2 _ _ rfl rfl) h2
  exact ⟨[_, _, _], rfl, fnp_of (lawAdds_a l0 y1 y2) (VL3 (V_runs hS0) V_i64 V_i64)⟩
theorem spanAdds_proved : Rows.SpanAddsSaid :=
  OpenClaim.holds_of_wide 7 Try.f7 rfl rfl rfl rfl rfl rfl rfl ⟨rfl, rfl, rfl, rfl, rfl⟩ rfl rfl rfl rfl rfl (by kernel_rfl) Try.func7 (by kernel_rfl)
    (of_decide_eq_true (by kernel_rfl)) (by unfold Func.isWrapper; first | (rw [if_pos (by decide +kernel)]; kernel_rfl) | (rw [if_neg (by decide +kernel)]; exact ⟨rfl, rfl⟩))
    (fun os started X enc _ => spanAdds_lifted os started X enc)

theorem spanAlgebra_lifted (os : Os) (started : os.Started) (X : Type) (enc : TypeId × Value → X) :
    ReturnsInHanded {} Try.checked os 8 .any (Rows.spanAlgebraSpec.pre6 enc Try.prog Try.f8 Rows.spanAlgebraRow.domain false) (Rows.spanAlgebraSpec.post enc Try.prog Try.f8 false true false false) := by
  refine returnsInHanded_of_change (C := Try.checked) law_own started (by kernel_rfl) Try.func8
    (ChangeSpec.witness6 (enc := enc) (C := Try.checked) false ⟨#[], #[.slice none 0 0, .slice none 0 0, .slice none 0 0], []⟩ 8 (by kernel_rfl) (by kernel_rfl) (by kernel_rfl) (by kernel_rfl)) ?_
  intro W base args ds gs before hval0 hW hcnd _
  refine contract_true (n := 3) law_laid rfl rfl (fun ds h => by match ds, h with | [_, _, _], _ => rfl) (by kernel_rfl) rfl Try.underlying4 hW ?_
  have hval : ∀ (j : Nat) t v, Try.f8.params[j]? = some t → args[j]? = some v → Value.okWide Try.prog W .any base t v := hval0
  clear hval0
  obtain ⟨p, q, hA0, -⟩ := hW
  have hA : DataW.TrodAll enc Try.prog W 0 (fun _ => true) true Try.f8.params.toList args.toList ds p := hA0
  clear hA0
  rw [Try.params8] at hA hval
  obtain ⟨v0, vs0, d0, ds0, p0, q0, hargs, rfl, rfl, h0, r0⟩ := trodAll_cons hA
  obtain ⟨v1, vs1, d1, ds1, p1, q1, rfl, rfl, rfl, h1, r1⟩ := trodAll_cons r0
  obtain ⟨v2, vs2, d2, ds2, p2, q2, rfl, rfl, rfl, h2, r2⟩ := trodAll_cons r1
  obtain ⟨rfl, rfl, rfl⟩ := trodAll_nil r2
  obtain rfl : args = #[v0, v1, v2] := by cases args; simp_all
  obtain ⟨a0, n0, c0, l0, rfl, hS0⟩ := sl_arg (R := runR) (k := 2) Try.underlying29 (by kernel_rfl) (hval 0 _ _ rfl rfl) h0 (fun n cs y h hk => runR_of h hk)
  obtain ⟨a1, n1, c1, l1, rfl, hS1⟩ := sl_arg (R := runR) (k := 2) Try.underlying29 (by kernel_rfl) (hval 1 _ _ rfl rfl) h1 (fun n cs y h hk => runR_of h hk)
  obtain ⟨a2, n2, c2, l2, rfl, hS2⟩ := sl_arg (R := runR) (k := 2) Try.underlying29 (by kernel_rfl) (hval 2 _ _ rfl rfl) h2 (fun n cs y h hk => runR_of h hk)
  exact ⟨[_, _, _], rfl, fnp_of (lawAlgebra_a l0 l1 l2) (VL3 (V_runs hS0) (V_runs hS1) (V_runs hS2))⟩
theorem spanAlgebra_proved : Rows.SpanAlgebraSaid :=
  OpenClaim.holds_of_wide 8 Try.f8 rfl rfl rfl rfl rfl rfl rfl ⟨rfl, rfl, rfl, rfl, rfl⟩ rfl rfl rfl rfl rfl (by kernel_rfl) Try.func8 (by kernel_rfl)
    (of_decide_eq_true (by kernel_rfl)) (by unfold Func.isWrapper; first | (rw [if_pos (by decide +kernel)]; kernel_rfl) | (rw [if_neg (by decide +kernel)]; exact ⟨rfl, rfl⟩))
    (fun os started X enc _ => spanAlgebra_lifted os started X enc)
end Go.Proofs.Ytpifafhcjloncaa
