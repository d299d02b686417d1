/- What is proved: the statement TreeOwn of chapter 08, for every input. Conditions: none. -/
import Derived.Test.YtailblpjmgabjaaUq
import Derived.Test.YtailblpjmgabjaaOy
namespace Go.Proofs.Ytailblpjmgabjaa
open Go.RowKit Go.ChangeShapes Go.WideShapes Go.ChangeAt
set_option linter.unusedVariables false
set_option linter.unusedSimpArgs false
set_option maxRecDepth 100000

theorem treeOwn_lifted (os : Os) (started : os.Started) (X : Type) (enc : TypeId × Value → X) :
    ReturnsInHanded {} Try.checked os 8 .any (Rows.treeOwnSpec.pre6 enc Try.prog Try.f8 Rows.treeOwnRow.domain false) (Rows.treeOwnSpec.post enc Try.prog Try.f8 false true false false) := by
  refine returnsInHanded_of_change_sized (C := Try.checked) law_own started (by kernel_rfl) Try.func8
    (ChangeSpec.witness6 (enc := enc) (C := Try.checked) false ⟨#[], #[.agg #[.slice none 0 0, .slice none 0 0], .slice none 0 0], []⟩ 8 (by kernel_rfl) (by kernel_rfl) (by kernel_rfl) (by kernel_rfl)) ?_
  intro W base args ds gs before hval0 hW hcnd hsz _
  refine contract_true (n := 2) law_laid rfl rfl (fun ds h => by match ds, h with | [_, _], _ => rfl) (by kernel_rfl) rfl Try.underlying4 hW ?_
  have hval : ∀ (j : Nat) t v, Try.f8.params[j]? = some t → args[j]? = some v → Value.okWide Try.prog W .any base t v := hval0
  clear hval0
  obtain ⟨p, q, hA0, -⟩ := hW
  have hA : DataW.TrodAll enc Try.prog W 0 (fun _ => true) true Try.f8.params.toList args.toList ds p := hA0
  clear hA0
  rw [Try.params8] at hA hval hsz
  have hsz' := List.all_eq_true.1 hsz
  obtain ⟨v0, v1, d0, d1, p0, p1, rfl, rfl, rfl, h0, h1⟩ := trodAll_two hA
  have w0 : Wok 25 d0 := fun x hx => by have := hsz' x (by simp only [DataW.weightsEach, List.cons_append, List.nil_append, List.mem_append]; exact .inl hx); simpa using this
  obtain ⟨a, ha, hba⟩ := tree_arg (hval 0 _ _ rfl rfl) h0 w0
  obtain ⟨a1, n1, c1, l1, rfl, hS1⟩ := sl_arg (R := strR) (k := 1) Try.underlying26 (by kernel_rfl) (hval 1 _ _ rfl rfl) h1 (fun n cs y h hk => strR_of h)
  exact ⟨[_, _], rfl, fnp_of (lawOwn_a a hba l1) (VL2 ha (V_strs hS1))⟩
theorem treeOwn_proved : Rows.TreeOwnSaid :=
  OpenClaim.holds_of_wide 8 Try.f8 rfl rfl rfl rfl rfl rfl rfl ⟨rfl, rfl, rfl, rfl, rfl⟩ rfl rfl rfl rfl rfl (by kernel_rfl) Try.func8 (by kernel_rfl)
    (of_decide_eq_true (by kernel_rfl)) (by unfold Func.isWrapper; first | (rw [if_pos (by decide +kernel)]; kernel_rfl) | (rw [if_neg (by decide +kernel)]; exact ⟨rfl, rfl⟩))
    (fun os started X enc _ => treeOwn_lifted os started X enc)
end Go.Proofs.Ytailblpjmgabjaa
