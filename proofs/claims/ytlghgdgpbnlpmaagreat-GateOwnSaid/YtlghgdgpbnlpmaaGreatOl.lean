/- What is proved: the statement GateOwn of chapter 23, for every input. Conditions: none. -/
import Derived.Test.YtlghgdgpbnlpmaaGreatGm
import Derived.Test.YtlghgdgpbnlpmaaGreatOh
import Derived.SizedLaws
namespace Go.Proofs.YtlghgdgpbnlpmaaGreat
open Go.RowKit Go.ChangeShapes Go.WideShapes Go.ChangeAt
set_option linter.unusedVariables false
set_option linter.unusedSimpArgs false
set_option maxRecDepth 100000

theorem gateOwn_lifted (os : Os) (started : os.Started) (X : Type) (enc : TypeId × Value → X) :
    ReturnsInHanded {} Tryz.checked os 4 .any (Rows.gateOwnSpec.pre6 enc Tryz.prog Tryz.f4 Rows.gateOwnRow.domain false) (Rows.gateOwnSpec.post enc Tryz.prog Tryz.f4 false true false false) := by
  refine returnsInHanded_of_change_sized (C := Tryz.checked) law_own started (by kernel_rfl) Tryz.func4
    (ChangeSpec.witness6 (enc := enc) (C := Tryz.checked) false ⟨#[], #[.slice none 0 0], []⟩ 8 (by kernel_rfl) (by kernel_rfl) (by kernel_rfl) (by kernel_rfl)) ?_
  intro W base args ds gs before hval0 hW hcnd hsz _
  refine contract_true (n := 1) law_laid rfl rfl (fun ds h => by match ds, h with | [_], _ => rfl) (by kernel_rfl) rfl Tryz.underlying4 hW ?_
  have hval : ∀ (j : Nat) t v, Tryz.f4.params[j]? = some t → args[j]? = some v → Value.okWide Tryz.prog W .any base t v := hval0
  clear hval0
  obtain ⟨p, q, hA0, -⟩ := hW
  have hA : DataW.TrodAll enc Tryz.prog W 0 (fun _ => true) true Tryz.f4.params.toList args.toList ds p := hA0
  clear hA0
  rw [Tryz.params4] at hA hval hsz
  have hsz' := List.all_eq_true.1 hsz
  obtain ⟨v0, d0, rfl, rfl, h0⟩ := trodAll_one hA
  have w0 : Wok 29 d0 := fun x hx => by have := hsz' x (by simp only [DataW.weightsEach, List.cons_append, List.nil_append, List.mem_append]; exact .inl hx); simpa using this
  obtain ⟨l, hl, hb⟩ := buns_arg (hval 0 _ _ rfl rfl) h0 w0
  exact ⟨[_], rfl, fnp_of (lawOwn_a l hb) (VL1 hl)⟩
theorem gateOwn_proved : Rows.GateOwnSaid :=
  OpenClaim.holds_of_wide 4 Tryz.f4 rfl rfl rfl rfl rfl rfl rfl ⟨rfl, rfl, rfl, rfl, rfl⟩ rfl rfl rfl rfl rfl (by kernel_rfl) Tryz.func4 (by kernel_rfl)
    (of_decide_eq_true (by kernel_rfl)) (by unfold Func.isWrapper; first | (rw [if_pos (by decide +kernel)]; kernel_rfl) | (rw [if_neg (by decide +kernel)]; exact ⟨rfl, rfl⟩))
    (fun os started X enc _ => gateOwn_lifted os started X enc)
end Go.Proofs.YtlghgdgpbnlpmaaGreat
