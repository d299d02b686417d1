/- What is proved: what chapter 06's reference Of answers: the right list of the numbers. Conditions: none. -/
import Derived.Test.YtpifafhcjloncaaNext
namespace Go.Proofs.Ytpifafhcjloncaa
open Go.RowKit
set_option linter.unusedSimpArgs false
set_option linter.unusedVariables false
theorem next_spec {above : Int} : ∀ (l : List Int) (acc : Option Int), (∀ b, acc = some b → above < b) →
    match l.foldl (nextF above) acc with
    | none => acc = none ∧ ∀ x ∈ l, ¬ above < x
    | some b => above < b ∧ (acc = some b ∨ b ∈ l) ∧ (∀ x ∈ l, above < x → b ≤ x) ∧ (∀ c, acc = some c → b ≤ c)
  | [], acc, h => by
    cases acc with
    | none => exact ⟨rfl, by simp⟩
    | some b => exact ⟨h b rfl, .inl rfl, by simp, fun c hc => by cases hc; exact Int.le_refl _⟩
  | y :: l, acc, h => by
    have key : (∀ b, nextF above acc y = some b → above < b) ∧ (nextF above acc y = none → acc = none ∧ ¬ above < y) ∧ (∀ b, nextF above acc y = some b → (acc = some b ∨ b = y) ∧ (above < y → b ≤ y) ∧ (∀ c, acc = some c → b ≤ c)) := by
      unfold nextF
      by_cases hy : above < y
      · rw [if_pos hy]
        cases acc with
        | none => exact ⟨fun b hb => by cases hb; exact hy, fun hb => (by cases hb), fun b hb => by cases hb; exact ⟨.inr rfl, fun _ => Int.le_refl _, by simp⟩⟩
        | some e =>
          by_cases hlt : y < e
          · simp only [hlt, if_true]
            exact ⟨fun b hb => by cases hb; exact hy, fun hb => (by cases hb), fun b hb => by cases hb; exact ⟨.inr rfl, fun _ => Int.le_refl _, fun c hc => by cases hc; omega⟩⟩
          · simp only [hlt, if_false]
            exact ⟨fun b hb => by cases hb; exact h _ rfl, fun hb => (by cases hb), fun b hb => by cases hb; exact ⟨.inl rfl, fun _ => by omega, fun c hc => by cases hc; exact Int.le_refl _⟩⟩
      · rw [if_neg hy]
        exact ⟨h, fun hb => ⟨hb, hy⟩, fun b hb => ⟨.inl hb, fun h' => absurd h' hy, fun c hc => by rw [hb] at hc; cases hc; exact Int.le_refl _⟩⟩
    have ih := next_spec l (nextF above acc y) key.1
    rw [List.foldl_cons]
    cases hf : l.foldl (nextF above) (nextF above acc y) with
    | none =>
      rw [hf] at ih
      have := key.2.1 ih.1
      exact ⟨this.1, fun x hx => by rcases List.mem_cons.1 hx with rfl | hx; exact this.2; exact ih.2 x hx⟩
    | some d =>
      rw [hf] at ih
      obtain ⟨h1, h2, h3, h4⟩ := ih
      refine ⟨h1, ?_, ?_, ?_⟩
      · rcases h2 with h2 | h2
        · rcases (key.2.2 d h2).1 with h' | h'
          · exact .inl h'
          · exact .inr (by rw [h']; exact List.mem_cons_self ..)
        · exact .inr (List.mem_cons_of_mem _ h2)
      · intro x hx hr
        rcases List.mem_cons.1 hx with rfl | hx
        · cases hl : nextF above acc x with
          | none => exact absurd hr (key.2.1 hl).2
          | some e => exact Int.le_trans (h4 e hl) ((key.2.2 e hl).2.1 hr)
        · exact h3 x hx hr
      · intro x hx
        cases hl : nextF above acc y with
        | none => rw [(key.2.1 hl).1] at hx; cases hx
        | some e => exact Int.le_trans (h4 e hl) ((key.2.2 e hl).2.2 x hx)
/-- one number more, above all -/
theorem snoc_spec {l : List Int} {out : List (Int × Int)} {prev x : Int} (hR : RightP out) (hm : ∀ y, hasL out y ↔ y ∈ l ∧ y ≤ prev) (hx : x ∈ l) (hlt : prev < x) (hmin : ∀ z ∈ l, prev < z → x ≤ z) (hx1 : 1 ≤ x ∧ x ≤ 1099511627776) :
    (∀ init b, out = init ++ [b] → b.2 = x - 1 → RightP (init ++ [(b.1, x)]) ∧ ∀ y, hasL (init ++ [(b.1, x)]) y ↔ y ∈ l ∧ y ≤ x) ∧
    ((∀ init b, out = init ++ [b] → b.2 ≠ x - 1) → RightP (out ++ [(x, x)]) ∧ ∀ y, hasL (out ++ [(x, x)]) y ↔ y ∈ l ∧ y ≤ x) := by
  have hmem : ∀ y, (y ∈ l ∧ y ≤ x) ↔ (hasL out y ∨ y = x) := by
    intro y
    rw [hm y]
    constructor
    · rintro ⟨h1, h2⟩
      by_cases h3 : y ≤ prev
      · exact .inl ⟨h1, h3⟩
      · have := hmin y h1 (by omega)
        exact .inr (by omega)
    · rintro (⟨h1, h2⟩ | rfl)
      · exact ⟨h1, by omega⟩
      · exact ⟨hx, Int.le_refl _⟩
  have hz2 : ∀ z ∈ out, z.2 < x := by
    intro z hz
    have hk := hR.1 z hz
    have := (hm z.2).1 ⟨z, hz, hk.2.1, Int.le_refl _⟩
    omega
  constructor
  · rintro init b rfl hb
    obtain ⟨h1, h2, h3⟩ := rightP_snoc.1 hR
    unfold okP at h2
    refine ⟨rightP_snoc.2 ⟨h1, ⟨h2.1, by dsimp only; omega, by dsimp only; omega⟩, h3⟩, fun y => ?_⟩
    rw [hmem y, hasL_append, hasL_append, hasL_one, hasL_one]
    dsimp only
    constructor
    · rintro (h | ⟨h4, h5⟩)
      · exact .inl (.inl h)
      · by_cases h6 : y ≤ b.2
        · exact .inl (.inr ⟨h4, h6⟩)
        · exact .inr (by omega)
    · rintro ((h | ⟨h4, h5⟩) | rfl)
      · exact .inl h
      · exact .inr ⟨h4, by omega⟩
      · exact .inr ⟨by omega, Int.le_refl _⟩
  · intro hne
    refine ⟨rightP_snoc.2 ⟨hR, ⟨hx1.1, Int.le_refl _, hx1.2⟩, fun z hz => ?_⟩, fun y => ?_⟩
    · have h1 := hz2 z hz
      rcases nil_or_snoc out with rfl | ⟨init, b, rfl⟩
      · cases hz
      · have h2 := hne init b rfl
        have h3 := hz2 b (by simp)
        obtain ⟨_, h5, h6⟩ := rightP_snoc.1 hR
        unfold okP at h5
        rcases List.mem_append.1 hz with hz | hz
        · have := h6 z hz; dsimp only; omega
        · rw [List.mem_singleton.1 hz]; dsimp only; omega
    · rw [hmem y, hasL_append, hasL_one]
      dsimp only
      constructor
      · rintro (h | ⟨h4, h5⟩)
        · exact .inl h
        · exact .inr (by omega)
      · rintro (h | rfl)
        · exact .inl h
        · exact .inr ⟨Int.le_refl _, Int.le_refl _⟩
end Go.Proofs.Ytpifafhcjloncaa
