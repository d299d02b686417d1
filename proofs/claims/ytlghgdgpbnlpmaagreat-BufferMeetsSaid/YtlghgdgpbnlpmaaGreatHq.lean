/- What is proved: the statement BufferMeets of chapter 24, for every input. Conditions: none. -/
import Derived.Test.YtlghgdgpbnlpmaaGreatGm
import Derived.Test.YtlghgdgpbnlpmaaGreatHl
import Derived.SizedLaws
namespace Go.Proofs.YtlghgdgpbnlpmaaGreat
open Go.RowKit Go.ChangeShapes Go.WideShapes Go.ChangeAt
set_option linter.unusedVariables false
set_option linter.unusedSimpArgs false
set_option maxRecDepth 100000
theorem VL4 {E : Env} {a b c d : AV} {u v w x : Value} (h : V E a u) (h2 : V E b v) (h3 : V E c w) (h4 : V E d x) : VL E [a, b, c, d] [u, v, w, x] := by simp only [VL]; exact ⟨_, _, rfl, h, _, _, rfl, h2, _, _, rfl, h3, _, _, rfl, h4, rfl⟩

theorem bufferMeets_lifted (os : Os) (started : os.Started) (X : Type) (enc : TypeId × Value → X) :
    ReturnsInHanded {} Tryz.checked os 11 .any (Rows.bufferMeetsSpec.pre6 enc Tryz.prog Tryz.f11 Rows.bufferMeetsRow.domain false) (Rows.bufferMeetsSpec.post enc Tryz.prog Tryz.f11 false true false false) := by
  refine returnsInHanded_of_change_sized (C := Tryz.checked) law_own started (by kernel_rfl) Tryz.func11
    (ChangeSpec.witness6 (enc := enc) (C := Tryz.checked) false ⟨#[], #[.slice none 0 0, .agg #[.int .i64 0, .int .i64 0, .int .i64 0, .int .i64 0], .agg #[.int .i64 0, .int .i64 0, .int .i64 0, .int .i64 0], .int .u8 0], []⟩ 8 (by kernel_rfl) (by kernel_rfl) (by kernel_rfl) (by kernel_rfl)) ?_
  intro W base args ds gs before hval0 hW hcnd hsz _
  refine contract_true (n := 4) law_laid rfl rfl (fun ds h => by match ds, h with | [_, _, _, _], _ => rfl) (by kernel_rfl) rfl Tryz.underlying4 hW ?_
  have hval : ∀ (j : Nat) t v, Tryz.f11.params[j]? = some t → args[j]? = some v → Value.okWide Tryz.prog W .any base t v := hval0
  clear hval0
  obtain ⟨p, q, hA0, -⟩ := hW
  have hA : DataW.TrodAll enc Tryz.prog W 0 (fun _ => true) true Tryz.f11.params.toList args.toList ds p := hA0
  clear hA0
  rw [Tryz.params11] at hA hval hsz
  have hsz' := List.all_eq_true.1 hsz
  obtain ⟨v0, v1, v2, v3, d0, d1, d2, d3, p0, p1, p2, p3, rfl, rfl, rfl, h0, h1, h2, h3⟩ := trodAll_four hA
  have w0 : Wok 29 d0 := fun x hx => by have := hsz' x (by simp only [DataW.weightsEach, List.cons_append, List.nil_append, List.mem_append]; exact .inl hx); simpa using this
  obtain ⟨l, hl, hb⟩ := buns_arg (hval 0 _ _ rfl rfl) h0 w0
  obtain ⟨u, hu⟩ := vec_arg (hval 1 _ _ rfl rfl) h1
  obtain ⟨v, hv⟩ := vec_arg (hval 2 _ _ rfl rfl) h2
  obtain ⟨n, rfl, hn⟩ := int_of Tryz.underlying5 (hval 3 _ _ rfl rfl) h3
  have hn : 0 ≤ n ∧ n ≤ 255 := by first | (simpa [Lit.wf, IntKind.min, IntKind.max, IntKind.signed, IntKind.bits] using hn) | exact ⟨of_decide_eq_true (Bool.and_eq_true_iff.1 hn).1, of_decide_eq_true (Bool.and_eq_true_iff.1 hn).2⟩
  exact ⟨[_, _, _, _], rfl, fnp_of (lawMeets_a l hb u v n hn) (VL4 hl hu hv (by simp only [V]))⟩
theorem bufferMeets_proved : Rows.BufferMeetsSaid :=
  OpenClaim.holds_of_wide 11 Tryz.f11 rfl rfl rfl rfl rfl rfl rfl ⟨rfl, rfl, rfl, rfl, rfl⟩ rfl rfl rfl rfl rfl (by kernel_rfl) Tryz.func11 (by kernel_rfl)
    (of_decide_eq_true (by kernel_rfl)) (by unfold Func.isWrapper; first | (rw [if_pos (by decide +kernel)]; kernel_rfl) | (rw [if_neg (by decide +kernel)]; exact ⟨rfl, rfl⟩))
    (fun os started X enc _ => bufferMeets_lifted os started X enc)
end Go.Proofs.YtlghgdgpbnlpmaaGreat
