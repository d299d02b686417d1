/- What is proved: a contract may take an own slice with its capacity, and may answer one. Conditions: none. -/
import Derived.Test.YtailblpjmgabjaaAx
namespace Go.Proofs.Ytailblpjmgabjaa
open Go.RowKit
set_option linter.unusedVariables false
/-- an own slice that is handed in, told with its capacity -/
theorem AFn.dn {P : Program} {f : FuncId} {args : List AV} {h : List AP} {El k n : Nat} {rows : List (List AV)} {R : AV → List AP → Prop} (hcall : ∀ (args : Array Value) w, (callFunc f args).run P w = .ok (.enter f args) w) (hn : 0 < n)
    (hC : ∀ C, n ≤ C → AFn P f (.sub 0 k 0 n C true :: args) (.row 0 El k rows :: h) R) : AFn P f (.own 0 n :: args) (.row 0 El k rows :: h) R := by
  intro E vs L hnx hvs hh
  have hvs0 := hvs
  simp only [VL] at hvs0
  obtain ⟨u, us, rfl, hu, hus⟩ := hvs0
  simp only [V] at hu
  obtain ⟨h1, h2, a, c, h3, h4, h5⟩ := hu
  obtain ⟨b, rfl⟩ := h4 hn
  refine hC c h5 E (u :: us) L hnx ?_ hh
  simp only [VL]
  refine ⟨u, us, rfl, ?_, hus⟩
  simp only [V]
  exact ⟨h1, b, n, some ⟨b, 0, none⟩, h2.symm.trans h3, by rw [Nat.sub_zero]; exact h3, by omega, fun _ => by simp [Addr.add], fun _ => ⟨trivial, rfl, h2⟩⟩
/-- a part that is the whole, told as an own slice -/
def upA : AV → AV
  | .sub id _ _ n _ true => .own id n
  | v => v
theorem upA_V {E : Env} {v : AV} {u : Value} (h : V E v u) : V E (upA v) u := by
  unfold upA
  split
  · simp only [V] at h ⊢
    obtain ⟨h1, b, N, a, h2, h3, h4, h5, h6⟩ := h
    obtain ⟨h7, h8, h9⟩ := h6 trivial
    subst h7; subst h8
    exact ⟨h1, h9, some ⟨b, 0, none⟩, _, h9.trans h2, fun _ => ⟨b, rfl⟩, by omega⟩
  · exact h
theorem AFn.up {P : Program} {f : FuncId} {args : List AV} {h : List AP} {R R' : AV → List AP → Prop} (ha : AFn P f args h R) (hR : ∀ r h', R r h' → R' (upA r) h') : AFn P f args h R' := by
  intro E vs L hnx hvs hh
  obtain ⟨h1, h2⟩ := ha E vs L hnx hvs hh
  refine ⟨h1, fun w hs => (h2 w hs).mono ?_⟩
  rintro x w' ⟨v, H', O, hx, hse, E', r, h', rfl, hE, hv, hh', hn, hr0⟩
  exact ⟨v, E'.H, O, hx, hse, E', upA r, h', rfl, hE, upA_V hv, hh', hn, hR r h' hr0⟩
/-- a nil answer counts as an own one -/
theorem AFn.nilV {P : Program} {f : FuncId} {args : List AV} {El k : Nat} {R R' : AV → List AP → Prop} (h : AFn P f args [] R') (hR : ∀ r h', R' r h' → R r h' ∨ (r = .nils ∧ h' = [] ∧ R (.own 0 0) [.row 0 El k []])) : AFn P f args [] R := by
  intro E vs L hnx hvs hh
  obtain ⟨h1, h2⟩ := h E vs L hnx hvs hh
  refine ⟨h1, fun w hs => (h2 w hs).mono ?_⟩
  rintro x w' ⟨v, H', O, hx, hse, E', r, h', rfl, hE, hv, hh', hn, hr0⟩
  rcases hR r h' hr0 with hr | ⟨rfl, rfl, hr⟩
  · exact ⟨v, E'.H, O, hx, hse, E', r, h', rfl, hE, hv, hh', hn, hr⟩
  · simp only [VH] at hh'
    subst hh'
    simp only [topN, List.length_nil] at hn
    simp only [V] at hv
    subst hv
    have hg := E'.addG_at (.slice none 0 0)
    rw [hn] at hg
    refine ⟨_, E'.H, _, hx, hse.nilrow El k, E'.addG (.slice none 0 0), .own 0 0, [.row 0 El k []], rfl, hE.trans (E'.addG_le _), ?_, ?_, ?_, hr⟩
    · simp only [V]
      exact ⟨by simp only [Env.addG]; omega, hg.symm, none, 0, rfl, fun h => absurd h (by decide), Nat.le_refl _⟩
    · simp only [VH, VP]
      exact ⟨_, _, rfl, ⟨by simp only [Env.addG]; omega, ⟨none, 0, by rw [hg]; rfl⟩, [], by rw [hg], by simp only [VLL]⟩, rfl⟩
    · simp only [Env.addG, hn]; rfl
end Go.Proofs.Ytailblpjmgabjaa
