/- What is proved: the statement GatePlays of chapter 23, for every input. Conditions: none. -/
import Derived.Test.YtlghgdgpbnlpmaaGreatGm
import Derived.Test.YtlghgdgpbnlpmaaGreatGl
import Derived.SizedLaws
namespace Go.Proofs.YtlghgdgpbnlpmaaGreat
open Go.RowKit Go.ChangeShapes Go.WideShapes Go.ChangeAt
set_option linter.unusedVariables false
set_option linter.unusedSimpArgs false
set_option maxRecDepth 100000
theorem cells_act : Tryz.prog.cellsOf 45 = 15 := by kernel_rfl
theorem cells_u8 : Tryz.prog.cellsOf 5 = 1 := by kernel_rfl
section opens
variable {X : Type} {enc : TypeId × Value → X} {w : World} {spare : Nat → Bool} {held : Bool}
theorem act_of {n : Nat} {cs : List Value} {y : DataW X × List MemPlace} (h : DataW.trod enc Tryz.prog w 0 spare held n 45 cs = some y) (hk : cs.length = 15) : ∃ a : Act23, VL (Env.fz (hp w)) (actE a) cs ∧ (Wok 45 y.1 → bndT a.2.1.t) := by
  obtain ⟨y0, y1, y2, m, hy, -, h0, h1, h2⟩ := Go.Deep.trod_struct3 Tryz.underlying45 h
  match cs, hk with
  | [c0, c1, c2, c3, c4, c5, c6, c7, c8, c9, c10, c11, c12, c13, c14], _ =>
    obtain ⟨a0, e0, -, -⟩ := DataW.trod_int Tryz.underlying5 h0
    simp [cells_u8, cells_bun, cells_vec] at e0 h1 h2
    obtain ⟨b, hb, hbb⟩ := bun_of h1 rfl
    obtain ⟨v, e3⟩ := vec_of h2 rfl
    simp only [List.cons.injEq, and_true] at e3
    obtain ⟨e5, e6, e7, e8⟩ := e3
    subst e0; subst e5; subst e6; subst e7; subst e8
    refine ⟨(a0, b, v), ?_, fun hw => hbb fun x hx => hw x ?_⟩
    · have hv : VL (Env.fz (hp w)) [i64 (v 0), i64 (v 1), i64 (v 2), i64 (v 3)] [.int .i64 (v 0), .int .i64 (v 1), .int .i64 (v 2), .int .i64 (v 3)] := by
        simp only [i64, VL, V]
        exact ⟨_, _, rfl, rfl, _, _, rfl, rfl, _, _, rfl, rfl, _, _, rfl, rfl, rfl⟩
      have := VL_append hb hv
      have h8 : VL (Env.fz (hp w)) [.int .u8 a0] [.int .u8 a0] := by simp only [VL, V]; exact ⟨_, _, rfl, rfl, rfl⟩
      exact VL_append h8 this
    · rw [hy]
      simp only [DataW.weights, Tryz.underlying45]
      simp [DataW.weightsEach, hx]
theorem acts_arg {r : Reach} {b0 : Nat} {v : Value} {d : DataW X} {ps : List MemPlace} (hv : Value.okWide Tryz.prog w r b0 22 v) (h : DataW.Trod enc Tryz.prog w 0 spare held 22 v d ps) (hw : Wok 22 d) : ∃ l : List Act23, V (Env.fz (hp w)) (lstE actE l) v ∧ ∀ a ∈ l, bndT a.2.1.t := by
  obtain ⟨a, n, c, rfl⟩ := okWide_slice Tryz.underlying22 hv
  obtain ⟨fuel, hf⟩ := h
  obtain ⟨a', n', c', l, h1, h2, h3⟩ := sl_open (f := actE) (Q := fun b => bndT b.2.1.t) Tryz.underlying22 cells_act (fun _ => rfl) hf (fun n cs y' h hk => act_of h hk)
  have h4 : Value.slice a n c = Value.slice a' n' c' := by simpa [Value.cells] using h1
  cases h4
  exact ⟨l, h2, h3 hw⟩
end opens

theorem gatePlays_lifted (os : Os) (started : os.Started) (X : Type) (enc : TypeId × Value → X) :
    ReturnsInHanded {} Tryz.checked os 3 .any (Rows.gatePlaysSpec.pre6 enc Tryz.prog Tryz.f3 Rows.gatePlaysRow.domain false) (Rows.gatePlaysSpec.post enc Tryz.prog Tryz.f3 false true false false) := by
  refine returnsInHanded_of_change_sized (C := Tryz.checked) law_own started (by kernel_rfl) Tryz.func3
    (ChangeSpec.witness6 (enc := enc) (C := Tryz.checked) false ⟨#[], #[.slice none 0 0], []⟩ 8 (by kernel_rfl) (by kernel_rfl) (by kernel_rfl) (by kernel_rfl)) ?_
  intro W base args ds gs before hval0 hW hcnd hsz _
  refine contract_true (n := 1) law_laid rfl rfl (fun ds h => by match ds, h with | [_], _ => rfl) (by kernel_rfl) rfl Tryz.underlying4 hW ?_
  have hval : ∀ (j : Nat) t v, Tryz.f3.params[j]? = some t → args[j]? = some v → Value.okWide Tryz.prog W .any base t v := hval0
  clear hval0
  obtain ⟨p, q, hA0, -⟩ := hW
  have hA : DataW.TrodAll enc Tryz.prog W 0 (fun _ => true) true Tryz.f3.params.toList args.toList ds p := hA0
  clear hA0
  rw [Tryz.params3] at hA hval hsz
  have hsz' := List.all_eq_true.1 hsz
  obtain ⟨v0, d0, rfl, rfl, h0⟩ := trodAll_one hA
  have w0 : Wok 22 d0 := fun x hx => by have := hsz' x (by simp only [DataW.weightsEach, List.cons_append, List.nil_append, List.mem_append]; exact .inl hx); simpa using this
  obtain ⟨l, hl, hb⟩ := acts_arg (hval 0 _ _ rfl rfl) h0 w0
  exact ⟨[_], rfl, fnp_of (lawPlays_a l hb) (VL1 hl)⟩
theorem gatePlays_proved : Rows.GatePlaysSaid :=
  OpenClaim.holds_of_wide 3 Tryz.f3 rfl rfl rfl rfl rfl rfl rfl ⟨rfl, rfl, rfl, rfl, rfl⟩ rfl rfl rfl rfl rfl (by kernel_rfl) Tryz.func3 (by kernel_rfl)
    (of_decide_eq_true (by kernel_rfl)) (by unfold Func.isWrapper; first | (rw [if_pos (by decide +kernel)]; kernel_rfl) | (rw [if_neg (by decide +kernel)]; exact ⟨rfl, rfl⟩))
    (fun os started X enc _ => gatePlays_lifted os started X enc)
end Go.Proofs.YtlghgdgpbnlpmaaGreat
