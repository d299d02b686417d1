/- What is proved: the statement BufferFull of chapter 24, for every input. Conditions: none. -/
import Derived.Test.YtlghgdgpbnlpmaaBr
import Derived.Test.YtlghgdgpbnlpmaaHk
namespace Go.Proofs.Ytlghgdgpbnlpmaa
open Go.RowKit Go.ChangeShapes Go.WideShapes Go.ChangeAt
set_option linter.unusedVariables false
set_option linter.unusedSimpArgs false
set_option maxRecDepth 100000
theorem law_own : ownKnob Try.prog.godebug = none := by kernel_rfl
theorem law_laid : laidOutB Try.prog = true := by kernel_rfl

theorem bufferFull_lifted (os : Os) (started : os.Started) (X : Type) (enc : TypeId × Value → X) :
    ReturnsInHanded {} Try.checked os 4 .any (Rows.bufferFullSpec.pre6 enc Try.prog Try.f4 Rows.bufferFullRow.domain false) (Rows.bufferFullSpec.post enc Try.prog Try.f4 false true false false) := by
  refine returnsInHanded_of_change (C := Try.checked) law_own started (by kernel_rfl) Try.func4
    (ChangeSpec.witness6 (enc := enc) (C := Try.checked) false ⟨#[], #[.int .u32 0, .int .u8 0], []⟩ 8 (by kernel_rfl) (by kernel_rfl) (by kernel_rfl) (by kernel_rfl)) ?_
  intro W base args ds gs before hval0 hW hcnd _
  refine contract_true (n := 2) law_laid rfl rfl (fun ds h => by match ds, h with | [_, _], _ => rfl) (by kernel_rfl) rfl Try.underlying4 hW ?_
  have hval : ∀ (j : Nat) t v, Try.f4.params[j]? = some t → args[j]? = some v → Value.okWide Try.prog W .any base t v := hval0
  clear hval0
  obtain ⟨p, q, hA0, -⟩ := hW
  have hA : DataW.TrodAll enc Try.prog W 0 (fun _ => true) true Try.f4.params.toList args.toList ds p := hA0
  clear hA0
  rw [Try.params4] at hA hval
  obtain ⟨v0, v1, d0, d1, p0, p1, rfl, rfl, -, h0, h1⟩ := trodAll_two hA
  obtain ⟨f, rfl, hf⟩ := int_of Try.underlying22 (hval 0 _ _ rfl rfl) h0
  obtain ⟨n, rfl, hn⟩ := int_of Try.underlying5 (hval 1 _ _ rfl rfl) h1
  have hf : 0 ≤ f ∧ f ≤ 4294967295 := by first | (simpa [Lit.wf, IntKind.min, IntKind.max, IntKind.signed, IntKind.bits] using hf) | exact ⟨of_decide_eq_true (Bool.and_eq_true_iff.1 hf).1, of_decide_eq_true (Bool.and_eq_true_iff.1 hf).2⟩
  have hn : 0 ≤ n ∧ n ≤ 255 := by first | (simpa [Lit.wf, IntKind.min, IntKind.max, IntKind.signed, IntKind.bits] using hn) | exact ⟨of_decide_eq_true (Bool.and_eq_true_iff.1 hn).1, of_decide_eq_true (Bool.and_eq_true_iff.1 hn).2⟩
  exact ⟨[_, _], rfl, fnp_of (lawBFull_a f n hf.1 hf.2 hn) (VL2 (by simp only [V]) (by simp only [V]))⟩
theorem bufferFull_proved : Rows.BufferFullSaid :=
  OpenClaim.holds_of_wide 4 Try.f4 rfl rfl rfl rfl rfl rfl rfl ⟨rfl, rfl, rfl, rfl, rfl⟩ rfl rfl rfl rfl rfl (by kernel_rfl) Try.func4 (by kernel_rfl)
    (of_decide_eq_true (by kernel_rfl)) (by unfold Func.isWrapper; first | (rw [if_pos (by decide +kernel)]; kernel_rfl) | (rw [if_neg (by decide +kernel)]; exact ⟨rfl, rfl⟩))
    (fun os started X enc _ => bufferFull_lifted os started X enc)
end Go.Proofs.Ytlghgdgpbnlpmaa
