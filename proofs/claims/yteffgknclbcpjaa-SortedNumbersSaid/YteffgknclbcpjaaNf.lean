/- What is proved: the statement SortedNumbers of chapter 01, for every input. Conditions: none. -/
import Derived.Test.YteffgknclbcpjaaQi
import Derived.Test.YteffgknclbcpjaaNe
namespace Go.Proofs.Yteffgknclbcpjaa
open Go.RowKit Go.ChangeShapes Go.WideShapes Go.ChangeAt
set_option linter.unusedVariables false
set_option linter.unusedSimpArgs false
set_option maxRecDepth 100000

theorem cells_num : Try.prog.cellsOf 2 = 1 := by kernel_rfl
section opens
variable {X : Type} {enc : TypeId × Value → X} {w : World} {spare : Nat → Bool} {held : Bool}
theorem intR_of {n : Nat} {cs : List Value} {y : DataW X × List MemPlace} (h : DataW.trod enc Try.prog w 0 spare held n 2 cs = some y) : ∃ z : Int, intR cs z := by
  obtain ⟨z, hz, -, -⟩ := DataW.trod_int Try.underlying2 h
  exact ⟨z, hz⟩
end opens
theorem sortedNumbers_lifted (os : Os) (started : os.Started) (X : Type) (enc : TypeId × Value → X) :
    ReturnsInHanded {} Try.checked os 5 .any (Rows.sortedNumbersSpec.pre6 enc Try.prog Try.f5 Rows.sortedNumbersRow.domain false) (Rows.sortedNumbersSpec.post enc Try.prog Try.f5 false true false false) := by
  refine returnsInHanded_of_change (C := Try.checked) law_own started (by kernel_rfl) Try.func5
    (ChangeSpec.witness6 (enc := enc) (C := Try.checked) false ⟨#[], #[.slice none 0 0, .int .i64 0], []⟩ 8 (by kernel_rfl) (by kernel_rfl) (by kernel_rfl) (by kernel_rfl)) ?_
  intro W base args ds gs before hval0 hW hcnd _
  refine contract_true (n := 2) law_laid rfl rfl (fun ds h => by match ds, h with | [_, _], _ => rfl) (by kernel_rfl) rfl Try.underlying4 hW ?_
  have hval : ∀ (j : Nat) t v, Try.f5.params[j]? = some t → args[j]? = some v → Value.okWide Try.prog W .any base t v := hval0
  clear hval0
  obtain ⟨p, q, hA0, -⟩ := hW
  have hA : DataW.TrodAll enc Try.prog W 0 (fun _ => true) true Try.f5.params.toList args.toList ds p := hA0
  clear hA0
  rw [Try.params5] at hA hval
  obtain ⟨v0, v1, d0, d1, p0, p1, rfl, rfl, rfl, h0, h1⟩ := trodAll_two hA
  obtain ⟨a0, n0, c0, l, rfl, hS⟩ := sl_arg (R := intR) (k := 1) Try.underlying43 cells_num (hval 0 _ _ rfl rfl) h0 (fun n cs y h hk => intR_of h)
  obtain ⟨n, rfl, -⟩ := int_of Try.underlying2 (hval 1 _ _ rfl rfl) h1
  exact ⟨[_, _], rfl, fnp_of (lawNumbers_a l n) (VL2 (V_ints hS) V_i64)⟩
theorem sortedNumbers_proved : Rows.SortedNumbersSaid :=
  OpenClaim.holds_of_wide 5 Try.f5 rfl rfl rfl rfl rfl rfl rfl ⟨rfl, rfl, rfl, rfl, rfl⟩ rfl rfl rfl rfl rfl (by kernel_rfl) Try.func5 (by kernel_rfl)
    (of_decide_eq_true (by kernel_rfl)) (by unfold Func.isWrapper; first | (rw [if_pos (by decide +kernel)]; kernel_rfl) | (rw [if_neg (by decide +kernel)]; exact ⟨rfl, rfl⟩))
    (fun os started X enc _ => sortedNumbers_lifted os started X enc)
end Go.Proofs.Yteffgknclbcpjaa
