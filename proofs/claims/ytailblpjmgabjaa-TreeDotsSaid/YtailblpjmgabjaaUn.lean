/- What is proved: what Union of package span answers. Conditions: none. -/
import Derived.Test.YtailblpjmgabjaaOa
import Derived.Test.YtailblpjmgabjaaTf
import Derived.Test.YtailblpjmgabjaaTh
import Derived.Test.YtailblpjmgabjaaTp
namespace Go.Proofs.Ytailblpjmgabjaa
open Go.RowKit
set_option linter.unusedVariables false
set_option linter.unusedSimpArgs false
set_option maxRecDepth 100000
set_option maxHeartbeats 8000000
/-- a nil answer counts as an own one -/
theorem AFn.nil {P : Program} {f : FuncId} {args : List AV} {El k : Nat} {R R' : AV → List AP → Prop} (h : AFn P f args [] R') (hR : ∀ r h', R' r h' → R r h' ∨ (r = .nils ∧ h' = [] ∧ R (.own 0 0) [.row 0 El k []])) : AFn P f args [] R := by
  intro E vs L hnx hvs hh
  obtain ⟨h1, h2⟩ := h E vs L hnx hvs hh
  refine ⟨h1, fun w hs => (h2 w hs).mono ?_⟩
  rintro x w' ⟨v, H', O, hx, hse, E', r, h', rfl, hE, hv, hh', hn, hr0⟩
  rcases hR r h' hr0 with hr | ⟨rfl, rfl, hr⟩
  · exact ⟨v, E'.H, O, hx, hse, E', r, h', rfl, hE, hv, hh', hn, hr⟩
  · simp only [VH] at hh'
    subst hh'
    simp only [topN, List.length_nil] at hn
    simp only [V] at hv
    subst hv
    have hg := E'.addG_at (.slice none 0 0)
    rw [hn] at hg
    refine ⟨_, E'.H, _, hx, hse.nilrow El k, E'.addG (.slice none 0 0), .own 0 0, [.row 0 El k []], rfl, hE.trans (E'.addG_le _), ?_, ?_, ?_, hr⟩
    · simp only [V]
      exact ⟨by simp only [Env.addG]; omega, hg.symm, none, 0, rfl, fun h => absurd h (by decide)⟩
    · simp only [VH, VP]
      exact ⟨_, _, rfl, ⟨by simp only [Env.addG]; omega, ⟨none, 0, by rw [hg]; rfl⟩, [], by rw [hg], by simp only [VLL]⟩, rfl⟩
    · simp only [Env.addG, hn]; rfl
end Go.Proofs.Ytailblpjmgabjaa
