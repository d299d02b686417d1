/- What is proved: the statement SortedMerges of chapter 01, for every input. Conditions: none. -/
import Derived.Test.YteffgknclbcpjaaQi
import Derived.Test.YteffgknclbcpjaaMd
namespace Go.Proofs.Yteffgknclbcpjaa
open Go.RowKit Go.ChangeShapes Go.WideShapes Go.ChangeAt
set_option linter.unusedVariables false
set_option linter.unusedSimpArgs false
set_option maxRecDepth 100000
def actS (cs : List Value) (x : Act1) : Prop := actR cs x ∧ (-(2 : Int) ^ 63 ≤ x.2.1 ∧ x.2.1 < (2 : Int) ^ 63)
section opens
variable {X : Type} {enc : TypeId × Value → X} {w : World} {spare : Nat → Bool} {held : Bool}
theorem actS_of {n : Nat} {cs : List Value} {y : DataW X × List MemPlace} (h : DataW.trod enc Try.prog w 0 spare held n 29 cs = some y) (hk : cs.length = 3) : ∃ z : Act1, actS cs z := by
  obtain ⟨y0, y1, y2, m, -, -, h0, h1, h2⟩ := Go.Deep.trod_struct3 Try.underlying29 h
  match cs, hk with
  | [c0, c1, c2], _ =>
    obtain ⟨a, ha, -, -⟩ := DataW.trod_string Try.underlying9 h0
    obtain ⟨b, hb, -, hw⟩ := DataW.trod_int Try.underlying3 h1
    obtain ⟨c, hc, -, -⟩ := DataW.trod_bool Try.underlying4 h2
    refine ⟨(a, b, c), by simp [cells_int, cells_bool, cells_string] at ha hb hc; simp [actR, ha, hb, hc], ?_⟩
    simp [Lit.wf, IntKind.min, IntKind.max, IntKind.signed, IntKind.bits] at hw
    show -(2 : Int) ^ 63 ≤ b ∧ b < (2 : Int) ^ 63
    omega
theorem actsS_arg {v : Value} {d : DataW X} {ps : List MemPlace} {r : Reach} {b0 : Nat} (hv : Value.okWide Try.prog w r b0 22 v) (h : DataW.Trod enc Try.prog w 0 spare held 22 v d ps) : ∃ l : List Act1, V (Env.fz (hp w)) (lstE actE l) v ∧ ∀ x ∈ l, -(2 : Int) ^ 63 ≤ x.2.1 ∧ x.2.1 < (2 : Int) ^ 63 := by
  obtain ⟨a, n, c, l, rfl, hS⟩ := sl_arg (R := actS) (k := 3) Try.underlying22 cells_act hv h (fun n cs y h hk => actS_of h hk)
  refine ⟨l, V_acts (hS.mono' (Hp.le.refl _) fun _ _ _ h => h.1), fun x hx => ?_⟩
  obtain ⟨i, hi, rfl⟩ := List.getElem_of_mem hx
  obtain ⟨_, _, _, _, _, h4⟩ := hS.2.2.2 i _ (List.getElem?_eq_getElem hi)
  exact h4.2
end opens
theorem sortedMerges_lifted (os : Os) (started : os.Started) (X : Type) (enc : TypeId × Value → X) :
    ReturnsInHanded {} Try.checked os 6 .any (Rows.sortedMergesSpec.pre6 enc Try.prog Try.f6 Rows.sortedMergesRow.domain false) (Rows.sortedMergesSpec.post enc Try.prog Try.f6 false true false false) := by
  refine returnsInHanded_of_change (C := Try.checked) law_own started (by kernel_rfl) Try.func6
    (ChangeSpec.witness6 (enc := enc) (C := Try.checked) false ⟨#[], #[.slice none 0 0, .slice none 0 0], []⟩ 8 (by kernel_rfl) (by kernel_rfl) (by kernel_rfl) (by kernel_rfl)) ?_
  intro W base args ds gs before hval0 hW hcnd _
  refine contract_true (n := 2) law_laid rfl rfl (fun ds h => by match ds, h with | [_, _], _ => rfl) (by kernel_rfl) rfl Try.underlying4 hW ?_
  have hval : ∀ (j : Nat) t v, Try.f6.params[j]? = some t → args[j]? = some v → Value.okWide Try.prog W .any base t v := hval0
  clear hval0
  obtain ⟨p, q, hA0, -⟩ := hW
  have hA : DataW.TrodAll enc Try.prog W 0 (fun _ => true) true Try.f6.params.toList args.toList ds p := hA0
  clear hA0
  rw [Try.params6] at hA hval
  obtain ⟨v0, v1, d0, d1, p0, p1, rfl, rfl, rfl, h0, h1⟩ := trodAll_two hA
  obtain ⟨a, ha, hra⟩ := actsS_arg (hval 0 _ _ rfl rfl) h0
  obtain ⟨b, hb, hrb⟩ := actsS_arg (hval 1 _ _ rfl rfl) h1
  exact ⟨[_, _], rfl, fnp_of (lawMerges_a a b hra hrb) (VL2 ha hb)⟩
theorem sortedMerges_proved : Rows.SortedMergesSaid :=
  OpenClaim.holds_of_wide 6 Try.f6 rfl rfl rfl rfl rfl rfl rfl ⟨rfl, rfl, rfl, rfl, rfl⟩ rfl rfl rfl rfl rfl (by kernel_rfl) Try.func6 (by kernel_rfl)
    (of_decide_eq_true (by kernel_rfl)) (by unfold Func.isWrapper; first | (rw [if_pos (by decide +kernel)]; kernel_rfl) | (rw [if_neg (by decide +kernel)]; exact ⟨rfl, rfl⟩))
    (fun os started X enc _ => sortedMerges_lifted os started X enc)
end Go.Proofs.Yteffgknclbcpjaa
