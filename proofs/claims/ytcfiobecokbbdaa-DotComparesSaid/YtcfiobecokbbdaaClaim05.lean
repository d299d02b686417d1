/- What is proved: the statements of chapter 05 (DotRight, DotNext, DotCompares, DotOrders, DotLeast), for every input. Conditions: none. -/
import Derived.Test.YtcfiobecokbbdaaBridge
import Derived.Test.YtcfiobecokbbdaaLaw05
namespace Go.Proofs.Ytcfiobecokbbdaa
open Go.RowKit Go.ChangeShapes Go.WideShapes Go.ChangeAt
set_option linter.unusedVariables false

theorem law_own : ownKnob Try.prog.godebug = none := by kernel_rfl
theorem law_laid : laidOutB Try.prog = true := by kernel_rfl

theorem cells_int : Try.prog.cellsOf 3 = 1 := by kernel_rfl
theorem cells_int64 : Try.prog.cellsOf 2 = 1 := by kernel_rfl
theorem cells_dot : Try.prog.cellsOf 23 = 2 := by kernel_rfl
section opens
variable {X : Type} {enc : TypeId × Value → X} {w : World} {spare : Nat → Bool} {held : Bool}
theorem dotR_of {n : Nat} {cs : List Value} {y : DataW X × List MemPlace} (h : DataW.trod enc Try.prog w 0 spare held n 23 cs = some y) (hk : cs.length = 2) : ∃ z : Int × Int, dotR cs z := by
  obtain ⟨y0, y1, m, -, -, h0, h1⟩ := trod_struct2 Try.underlying23 h
  match cs, hk with
  | [c0, c1], _ =>
    obtain ⟨a, ha, -, -⟩ := DataW.trod_int Try.underlying3 h0
    obtain ⟨b, hb, -, -⟩ := DataW.trod_int Try.underlying2 h1
    exact ⟨(a, b), by simp [cells_int, cells_int64] at ha hb; simp [dotR, ha, hb]⟩
theorem dot_arg {r : Reach} {b0 : Nat} {v : Value} {d : DataW X} {ps : List MemPlace} (hv : Value.okWide Try.prog w r b0 23 v) (h : DataW.Trod enc Try.prog w 0 spare held 23 v d ps) : ∃ a b, v = dotV a b := by
  obtain ⟨cs, rfl, hsz⟩ := okWide_struct Try.underlying23 hv
  obtain ⟨fuel, hf⟩ := h
  obtain ⟨z, hz⟩ := dotR_of hf (by rw [cells_dot] at hsz; simpa [Value.cells] using hsz)
  exact ⟨z.1, z.2, by simp [Value.cells] at hz; simp [dotV, ← hz]⟩
end opens

theorem dotRight_lifted (os : Os) (started : os.Started) (X : Type) (enc : TypeId × Value → X) :
    ReturnsInHanded {} Try.checked os 3 .any (Rows.dotRightSpec.pre6 enc Try.prog Try.f3 Rows.dotRightRow.domain false) (Rows.dotRightSpec.post enc Try.prog Try.f3 false true false false) := by
  refine returnsInHanded_of_change (C := Try.checked) law_own started (by kernel_rfl) Try.func3
    (ChangeSpec.witness6 (enc := enc) (C := Try.checked) false ⟨#[], #[.agg #[.int .i64 0, .int .i64 0]], []⟩ 8 (by kernel_rfl) (by kernel_rfl) (by kernel_rfl) (by kernel_rfl)) ?_
  intro W base args ds gs before hval0 hW hcnd _
  refine contract_true (n := 1) law_laid rfl rfl (fun ds h => by match ds, h with | [_], _ => rfl) (by kernel_rfl) rfl Try.underlying4 hW ?_
  have hval : ∀ (j : Nat) t v, Try.f3.params[j]? = some t → args[j]? = some v → Value.okWide Try.prog W .any base t v := hval0
  clear hval0
  obtain ⟨p, q, hA0, -⟩ := hW
  have hA : DataW.TrodAll enc Try.prog W 0 (fun _ => true) true Try.f3.params.toList args.toList ds p := hA0
  clear hA0
  rw [Try.params3] at hA hval
  obtain ⟨v0, vs0, d0, ds0, p0, q0, hargs, rfl, rfl, h0, r0⟩ := trodAll_cons hA
  obtain ⟨rfl, rfl, rfl⟩ := trodAll_nil r0
  obtain rfl : args = #[v0] := by cases args; simp_all
  obtain ⟨a, b, rfl⟩ := dot_arg (hval 0 _ _ rfl rfl) h0
  exact ⟨[_], rfl, lawRight_c _ _ _⟩
theorem dotRight_proved : Rows.DotRightSaid :=
  OpenClaim.holds_of_wide 3 Try.f3 rfl rfl rfl rfl rfl rfl rfl ⟨rfl, rfl, rfl, rfl, rfl⟩ rfl rfl rfl rfl rfl (by kernel_rfl) Try.func3 (by kernel_rfl)
    (of_decide_eq_true (by kernel_rfl)) (by unfold Func.isWrapper; first | (rw [if_pos (by decide +kernel)]; kernel_rfl) | (rw [if_neg (by decide +kernel)]; exact ⟨rfl, rfl⟩))
    (fun os started X enc _ => dotRight_lifted os started X enc)

theorem dotNext_lifted (os : Os) (started : os.Started) (X : Type) (enc : TypeId × Value → X) :
    ReturnsInHanded {} Try.checked os 4 .any (Rows.dotNextSpec.pre6 enc Try.prog Try.f4 Rows.dotNextRow.domain false) (Rows.dotNextSpec.post enc Try.prog Try.f4 false true false false) := by
  refine returnsInHanded_of_change (C := Try.checked) law_own started (by kernel_rfl) Try.func4
    (ChangeSpec.witness6 (enc := enc) (C := Try.checked) false ⟨#[], #[.int .i64 0, .int .i64 0], []⟩ 8 (by kernel_rfl) (by kernel_rfl) (by kernel_rfl) (by kernel_rfl)) ?_
  intro W base args ds gs before hval0 hW hcnd _
  refine contract_true (n := 2) law_laid rfl rfl (fun ds h => by match ds, h with | [_, _], _ => rfl) (by kernel_rfl) rfl Try.underlying4 hW ?_
  have hval : ∀ (j : Nat) t v, Try.f4.params[j]? = some t → args[j]? = some v → Value.okWide Try.prog W .any base t v := hval0
  clear hval0
  obtain ⟨p, q, hA0, -⟩ := hW
  have hA : DataW.TrodAll enc Try.prog W 0 (fun _ => true) true Try.f4.params.toList args.toList ds p := hA0
  clear hA0
  rw [Try.params4] at hA hval
  obtain ⟨v0, v1, d0, d1, p0, p1, rfl, rfl, rfl, h0, h1⟩ := trodAll_two hA
  obtain ⟨a, rfl, -⟩ := int_of Try.underlying3 (hval 0 _ _ rfl rfl) h0
  obtain ⟨b, rfl, -⟩ := int_of Try.underlying2 (hval 1 _ _ rfl rfl) h1
  exact ⟨[_, _], rfl, lawNext_c _ _ _⟩
theorem dotNext_proved : Rows.DotNextSaid :=
  OpenClaim.holds_of_wide 4 Try.f4 rfl rfl rfl rfl rfl rfl rfl ⟨rfl, rfl, rfl, rfl, rfl⟩ rfl rfl rfl rfl rfl (by kernel_rfl) Try.func4 (by kernel_rfl)
    (of_decide_eq_true (by kernel_rfl)) (by unfold Func.isWrapper; first | (rw [if_pos (by decide +kernel)]; kernel_rfl) | (rw [if_neg (by decide +kernel)]; exact ⟨rfl, rfl⟩))
    (fun os started X enc _ => dotNext_lifted os started X enc)

theorem dotCompares_lifted (os : Os) (started : os.Started) (X : Type) (enc : TypeId × Value → X) :
    ReturnsInHanded {} Try.checked os 5 .any (Rows.dotComparesSpec.pre6 enc Try.prog Try.f5 Rows.dotComparesRow.domain false) (Rows.dotComparesSpec.post enc Try.prog Try.f5 false true false false) := by
  refine returnsInHanded_of_change (C := Try.checked) law_own started (by kernel_rfl) Try.func5
    (ChangeSpec.witness6 (enc := enc) (C := Try.checked) false ⟨#[], #[.agg #[.int .i64 0, .int .i64 0], .agg #[.int .i64 0, .int .i64 0]], []⟩ 8 (by kernel_rfl) (by kernel_rfl) (by kernel_rfl) (by kernel_rfl)) ?_
  intro W base args ds gs before hval0 hW hcnd _
  refine contract_true (n := 2) law_laid rfl rfl (fun ds h => by match ds, h with | [_, _], _ => rfl) (by kernel_rfl) rfl Try.underlying4 hW ?_
  have hval : ∀ (j : Nat) t v, Try.f5.params[j]? = some t → args[j]? = some v → Value.okWide Try.prog W .any base t v := hval0
  clear hval0
  obtain ⟨p, q, hA0, -⟩ := hW
  have hA : DataW.TrodAll enc Try.prog W 0 (fun _ => true) true Try.f5.params.toList args.toList ds p := hA0
  clear hA0
  rw [Try.params5] at hA hval
  obtain ⟨v0, v1, d0, d1, p0, p1, rfl, rfl, rfl, h0, h1⟩ := trodAll_two hA
  obtain ⟨a, b, rfl⟩ := dot_arg (hval 0 _ _ rfl rfl) h0
  obtain ⟨c, d, rfl⟩ := dot_arg (hval 1 _ _ rfl rfl) h1
  exact ⟨[_, _], rfl, lawCompares_c _ _ _ _ _⟩
theorem dotCompares_proved : Rows.DotComparesSaid :=
  OpenClaim.holds_of_wide 5 Try.f5 rfl rfl rfl rfl rfl rfl rfl ⟨rfl, rfl, rfl, rfl, rfl⟩ rfl rfl rfl rfl rfl (by kernel_rfl) Try.func5 (by kernel_rfl)
    (of_decide_eq_true (by kernel_rfl)) (by unfold Func.isWrapper; first | (rw [if_pos (by decide +kernel)]; kernel_rfl) | (rw [if_neg (by decide +kernel)]; exact ⟨rfl, rfl⟩))
    (fun os started X enc _ => dotCompares_lifted os started X enc)

theorem dotOrders_lifted (os : Os) (started : os.Started) (X : Type) (enc : TypeId × Value → X) :
    ReturnsInHanded {} Try.checked os 6 .any (Rows.dotOrdersSpec.pre6 enc Try.prog Try.f6 Rows.dotOrdersRow.domain false) (Rows.dotOrdersSpec.post enc Try.prog Try.f6 false true false false) := by
  refine returnsInHanded_of_change (C := Try.checked) law_own started (by kernel_rfl) Try.func6
    (ChangeSpec.witness6 (enc := enc) (C := Try.checked) false ⟨#[], #[.agg #[.int .i64 0, .int .i64 0], .agg #[.int .i64 0, .int .i64 0], .agg #[.int .i64 0, .int .i64 0]], []⟩ 8 (by kernel_rfl) (by kernel_rfl) (by kernel_rfl) (by kernel_rfl)) ?_
  intro W base args ds gs before hval0 hW hcnd _
  refine contract_true (n := 3) law_laid rfl rfl (fun ds h => by match ds, h with | [_, _, _], _ => rfl) (by kernel_rfl) rfl Try.underlying4 hW ?_
  have hval : ∀ (j : Nat) t v, Try.f6.params[j]? = some t → args[j]? = some v → Value.okWide Try.prog W .any base t v := hval0
  clear hval0
  obtain ⟨p, q, hA0, -⟩ := hW
  have hA : DataW.TrodAll enc Try.prog W 0 (fun _ => true) true Try.f6.params.toList args.toList ds p := hA0
  clear hA0
  rw [Try.params6] at hA hval
  obtain ⟨v0, v1, v2, d0, d1, d2, p0, p1, p2, rfl, rfl, rfl, h0, h1, h2⟩ := trodAll_three hA
  obtain ⟨a, b, rfl⟩ := dot_arg (hval 0 _ _ rfl rfl) h0
  obtain ⟨c, d, rfl⟩ := dot_arg (hval 1 _ _ rfl rfl) h1
  obtain ⟨e, f, rfl⟩ := dot_arg (hval 2 _ _ rfl rfl) h2
  exact ⟨[_, _, _], rfl, lawOrders_c _ _ _ _ _ _ _⟩
theorem dotOrders_proved : Rows.DotOrdersSaid :=
  OpenClaim.holds_of_wide 6 Try.f6 rfl rfl rfl rfl rfl rfl rfl ⟨rfl, rfl, rfl, rfl, rfl⟩ rfl rfl rfl rfl rfl (by kernel_rfl) Try.func6 (by kernel_rfl)
    (of_decide_eq_true (by kernel_rfl)) (by unfold Func.isWrapper; first | (rw [if_pos (by decide +kernel)]; kernel_rfl) | (rw [if_neg (by decide +kernel)]; exact ⟨rfl, rfl⟩))
    (fun os started X enc _ => dotOrders_lifted os started X enc)

theorem dotLeast_lifted (os : Os) (started : os.Started) (X : Type) (enc : TypeId × Value → X) :
    ReturnsInHanded {} Try.checked os 7 .any (Rows.dotLeastSpec.pre6 enc Try.prog Try.f7 Rows.dotLeastRow.domain false) (Rows.dotLeastSpec.post enc Try.prog Try.f7 false true false false) := by
  refine returnsInHanded_of_change (C := Try.checked) law_own started (by kernel_rfl) Try.func7
    (ChangeSpec.witness6 (enc := enc) (C := Try.checked) false ⟨#[], #[.slice none 0 0], []⟩ 8 (by kernel_rfl) (by kernel_rfl) (by kernel_rfl) (by kernel_rfl)) ?_
  intro W base args ds gs before hval0 hW hcnd _
  refine contract_true (n := 1) law_laid rfl rfl (fun ds h => by match ds, h with | [_], _ => rfl) (by kernel_rfl) rfl Try.underlying4 hW ?_
  have hval : ∀ (j : Nat) t v, Try.f7.params[j]? = some t → args[j]? = some v → Value.okWide Try.prog W .any base t v := hval0
  clear hval0
  obtain ⟨p, q, hA0, -⟩ := hW
  have hA : DataW.TrodAll enc Try.prog W 0 (fun _ => true) true Try.f7.params.toList args.toList ds p := hA0
  clear hA0
  rw [Try.params7] at hA hval
  obtain ⟨v0, vs0, d0, ds0, p0, q0, hargs, rfl, rfl, h0, r0⟩ := trodAll_cons hA
  obtain ⟨rfl, rfl, rfl⟩ := trodAll_nil r0
  obtain rfl : args = #[v0] := by cases args; simp_all
  obtain ⟨a, n, c, l, rfl, hS⟩ := sl_arg (R := dotR) (k := 2) Try.underlying33 (by kernel_rfl) (hval 0 _ _ rfl rfl) h0 (fun n cs y h hk => dotR_of h hk)
  exact ⟨[_], rfl, lawLeast_c _ hS⟩
theorem dotLeast_proved : Rows.DotLeastSaid :=
  OpenClaim.holds_of_wide 7 Try.f7 rfl rfl rfl rfl rfl rfl rfl ⟨rfl, rfl, rfl, rfl, rfl⟩ rfl rfl rfl rfl rfl (by kernel_rfl) Try.func7 (by kernel_rfl)
    (of_decide_eq_true (by kernel_rfl)) (by unfold Func.isWrapper; first | (rw [if_pos (by decide +kernel)]; kernel_rfl) | (rw [if_neg (by decide +kernel)]; exact ⟨rfl, rfl⟩))
    (fun os started X enc _ => dotLeast_lifted os started X enc)

end Go.Proofs.Ytcfiobecokbbdaa
