/- What is proved: the statement BufferPlays of chapter 24, for every input. Conditions: none. -/
import Derived.Test.YtlghgdgpbnlpmaaGreatGm
import Derived.Test.YtlghgdgpbnlpmaaGreatHm
import Derived.SizedLaws
namespace Go.Proofs.YtlghgdgpbnlpmaaGreat
open Go.RowKit Go.ChangeShapes Go.WideShapes Go.ChangeAt
set_option linter.unusedVariables false
set_option linter.unusedSimpArgs false
set_option maxRecDepth 100000
theorem cells_act24 : Tryz.prog.cellsOf 97 = 17 := by kernel_rfl
theorem cells_u8 : Tryz.prog.cellsOf 5 = 1 := by kernel_rfl
section opens
variable {X : Type} {enc : TypeId × Value → X} {w : World} {spare : Nat → Bool} {held : Bool}
theorem act24_of {n : Nat} {cs : List Value} {y : DataW X × List MemPlace} (h : DataW.trod enc Tryz.prog w 0 spare held n 97 cs = some y) (hk : cs.length = 17) : ∃ a : Act24, VL (Env.fz (hp w)) (actE24 a) cs ∧ (Wok 97 y.1 → bndT a.2.1.t) := by
  obtain ⟨y0, y1, y2, y3, y4, m, hy, -, h0, h1, h2, h3, h4⟩ := trod_struct5 Tryz.underlying97 h
  match cs, hk with
  | [c0, c1, c2, c3, c4, c5, c6, c7, c8, c9, c10, c11, c12, c13, c14, c15, c16], _ =>
    obtain ⟨a0, e0, -, -⟩ := DataW.trod_int Tryz.underlying5 h0
    simp [cells_u8, cells_bun, cells_vec, cells_int] at e0 h1 h2 h3 h4
    obtain ⟨b, hb, hbb⟩ := bun_of h1 rfl
    obtain ⟨a2, e2, -, -⟩ := DataW.trod_int Tryz.underlying3 h2
    obtain ⟨v, e3⟩ := vec_of h3 rfl
    obtain ⟨a4, e4, -, -⟩ := DataW.trod_int Tryz.underlying3 h4
    simp only [List.cons.injEq, and_true] at e2 e3 e4
    obtain ⟨e5, e6, e7, e8⟩ := e3
    subst e0; subst e5; subst e6; subst e7; subst e8; subst e2; subst e4
    refine ⟨(a0, b, a2, v, a4), ?_, fun hw => hbb fun x hx => hw x ?_⟩
    · have hv : VL (Env.fz (hp w)) [i64 a2, i64 (v 0), i64 (v 1), i64 (v 2), i64 (v 3), i64 a4] [.int .i64 a2, .int .i64 (v 0), .int .i64 (v 1), .int .i64 (v 2), .int .i64 (v 3), .int .i64 a4] := by
        simp only [i64, VL, V]
        exact ⟨_, _, rfl, rfl, _, _, rfl, rfl, _, _, rfl, rfl, _, _, rfl, rfl, _, _, rfl, rfl, _, _, rfl, rfl, rfl⟩
      have := VL_append hb hv
      have h8 : VL (Env.fz (hp w)) [.int .u8 a0] [.int .u8 a0] := by simp only [VL, V]; exact ⟨_, _, rfl, rfl, rfl⟩
      exact VL_append h8 this
    · rw [hy]
      simp only [DataW.weights, Tryz.underlying97]
      simp [DataW.weightsEach, hx]
theorem acts24_arg {r : Reach} {b0 : Nat} {v : Value} {d : DataW X} {ps : List MemPlace} (hv : Value.okWide Tryz.prog w r b0 86 v) (h : DataW.Trod enc Tryz.prog w 0 spare held 86 v d ps) (hw : Wok 86 d) : ∃ l : List Act24, V (Env.fz (hp w)) (lstE actE24 l) v ∧ ∀ a ∈ l, bndT a.2.1.t := by
  obtain ⟨a, n, c, rfl⟩ := okWide_slice Tryz.underlying86 hv
  obtain ⟨fuel, hf⟩ := h
  obtain ⟨a', n', c', l, h1, h2, h3⟩ := sl_open (f := actE24) (Q := fun b => bndT b.2.1.t) Tryz.underlying86 cells_act24 (fun _ => rfl) hf (fun n cs y' h hk => act24_of h hk)
  have h4 : Value.slice a n c = Value.slice a' n' c' := by simpa [Value.cells] using h1
  cases h4
  exact ⟨l, h2, h3 hw⟩
end opens

theorem bufferPlays_lifted (os : Os) (started : os.Started) (X : Type) (enc : TypeId × Value → X) :
    ReturnsInHanded {} Tryz.checked os 9 .any (Rows.bufferPlaysSpec.pre6 enc Tryz.prog Tryz.f9 Rows.bufferPlaysRow.domain false) (Rows.bufferPlaysSpec.post enc Tryz.prog Tryz.f9 false true false false) := by
  refine returnsInHanded_of_change_sized (C := Tryz.checked) law_own started (by kernel_rfl) Tryz.func9
    (ChangeSpec.witness6 (enc := enc) (C := Tryz.checked) false ⟨#[], #[.int .i64 0, .int .i64 0, .slice none 0 0], []⟩ 8 (by kernel_rfl) (by kernel_rfl) (by kernel_rfl) (by kernel_rfl)) ?_
  intro W base args ds gs before hval0 hW hcnd hsz _
  refine contract_true (n := 3) law_laid rfl rfl (fun ds h => by match ds, h with | [_, _, _], _ => rfl) (by kernel_rfl) rfl Tryz.underlying4 hW ?_
  have hval : ∀ (j : Nat) t v, Tryz.f9.params[j]? = some t → args[j]? = some v → Value.okWide Tryz.prog W .any base t v := hval0
  clear hval0
  obtain ⟨p, q, hA0, -⟩ := hW
  have hA : DataW.TrodAll enc Tryz.prog W 0 (fun _ => true) true Tryz.f9.params.toList args.toList ds p := hA0
  clear hA0
  rw [Tryz.params9] at hA hval hsz
  have hsz' := List.all_eq_true.1 hsz
  obtain ⟨v0, v1, v2, d0, d1, d2, p0, p1, p2, rfl, rfl, rfl, h0, h1, h2⟩ := trodAll_three hA
  have w2 : Wok 86 d2 := fun x hx => by have := hsz' x (by simp only [DataW.weightsEach, List.cons_append, List.nil_append, List.mem_append]; exact .inr (.inr (.inl hx))); simpa using this
  obtain ⟨l, hl, hb⟩ := acts24_arg (hval 2 _ _ rfl rfl) h2 w2
  obtain ⟨s, rfl, -⟩ := int_of Tryz.underlying3 (hval 0 _ _ rfl rfl) h0
  obtain ⟨c, rfl, -⟩ := int_of Tryz.underlying3 (hval 1 _ _ rfl rfl) h1
  exact ⟨[_, _, _], rfl, fnp_of (lawBPlays_a s c l hb) (VL3 (by simp only [V, i64]) (by simp only [V, i64]) hl)⟩
theorem bufferPlays_proved : Rows.BufferPlaysSaid :=
  OpenClaim.holds_of_wide 9 Tryz.f9 rfl rfl rfl rfl rfl rfl rfl ⟨rfl, rfl, rfl, rfl, rfl⟩ rfl rfl rfl rfl rfl (by kernel_rfl) Tryz.func9 (by kernel_rfl)
    (of_decide_eq_true (by kernel_rfl)) (by unfold Func.isWrapper; first | (rw [if_pos (by decide +kernel)]; kernel_rfl) | (rw [if_neg (by decide +kernel)]; exact ⟨rfl, rfl⟩))
    (fun os started X enc _ => bufferPlays_lifted os started X enc)
end Go.Proofs.YtlghgdgpbnlpmaaGreat
