/- What is proved: the plain law of sets of runs: a right list is fixed by its numbers; joining rising runs gives the right list of their numbers. Conditions: none. -/
import Derived.Test.YtpifafhcjloncaaJoin
namespace Go.Proofs.Ytpifafhcjloncaa
set_option linter.unusedSimpArgs false
set_option linter.unusedVariables false

def hasL (l : List (Int × Int)) (y : Int) : Prop := ∃ x ∈ l, x.1 ≤ y ∧ y ≤ x.2
def okP (x : Int × Int) : Prop := 1 ≤ x.1 ∧ x.1 ≤ x.2 ∧ x.2 ≤ 1099511627776
def RightP (l : List (Int × Int)) : Prop := (∀ x ∈ l, okP x) ∧ l.Pairwise (fun x y => x.2 + 1 < y.1)
theorem right_apart {l : List (Int × Int)} (h : rightL l = true) : ∀ (k i : Nat) (hi : i + k + 1 < l.length), l[i].2 + 1 < l[i + k + 1].1
  | 0, i, hi => by
    have := (goodAt_iff (l := l) (i := i + 1) (by omega)).1 (rightL_at h (by omega))
    simp only [Nat.add_sub_cancel] at this
    simp only [Nat.add_zero]
    omega
  | k + 1, i, hi => by
    have h1 := right_apart h k i (by omega)
    have h2 := (goodAt_iff (l := l) (i := i + (k + 1) + 1) (by omega)).1 (rightL_at h (by omega))
    have h3 := (goodAt_iff (l := l) (i := i + k + 1) (by omega)).1 (rightL_at h (by omega))
    simp only [Nat.add_sub_cancel] at h2
    simp only [← Nat.add_assoc] at h2 ⊢
    omega
theorem rightL_iff {l : List (Int × Int)} : rightL l = true ↔ RightP l := by
  constructor
  · intro h
    refine ⟨fun x hx => ?_, ?_⟩
    · obtain ⟨i, hi, rfl⟩ := List.getElem_of_mem hx
      exact ((goodAt_iff hi).1 (rightL_at h hi)).1
    · rw [List.pairwise_iff_getElem]
      intro i j hi hj hij
      have := right_apart h (j - i - 1) i (by omega)
      simp only [show i + (j - i - 1) + 1 = j by omega] at this
      exact this
  · intro h
    refine rightL_true fun i hi => (goodAt_iff hi).2 ⟨h.1 _ (List.getElem_mem _), ?_⟩
    rcases Nat.eq_zero_or_pos i with h0 | h0
    · exact .inl h0
    · exact .inr (List.pairwise_iff_getElem.1 h.2 (i - 1) i (by omega) hi (by omega))
theorem RightP.tail {x : Int × Int} {l : List (Int × Int)} (h : RightP (x :: l)) : RightP l := ⟨fun y hy => h.1 y (List.mem_cons_of_mem _ hy), (List.pairwise_cons.1 h.2).2⟩
theorem RightP.above {x : Int × Int} {l : List (Int × Int)} (h : RightP (x :: l)) {y : Int} (hy : hasL l y) : x.2 + 1 < y := by
  obtain ⟨z, hz, h1, h2⟩ := hy
  have := (List.pairwise_cons.1 h.2).1 z hz
  omega
theorem hasL_cons {x : Int × Int} {l : List (Int × Int)} {y : Int} : hasL (x :: l) y ↔ (x.1 ≤ y ∧ y ≤ x.2) ∨ hasL l y := by
  constructor
  · rintro ⟨z, hz, h⟩
    rcases List.mem_cons.1 hz with rfl | hz
    · exact .inl h
    · exact .inr ⟨z, hz, h⟩
  · rintro (h | ⟨z, hz, h⟩)
    · exact ⟨x, List.mem_cons_self .., h⟩
    · exact ⟨z, List.mem_cons_of_mem _ hz, h⟩
theorem not_hasL_nil {y : Int} : ¬ hasL [] y := by rintro ⟨z, hz, _⟩; cases hz
/-- a right list is fixed by its numbers -/
theorem canon : ∀ {a b : List (Int × Int)}, RightP a → RightP b → (∀ y, hasL a y ↔ hasL b y) → a = b
  | [], [], _, _, _ => rfl
  | [], y :: b, _, hb, h => by
    have := hb.1 y (List.mem_cons_self ..)
    exact absurd ((h y.1).2 (hasL_cons.2 (.inl ⟨Int.le_refl _, this.2.1⟩))) not_hasL_nil
  | x :: a, [], ha, _, h => by
    have := ha.1 x (List.mem_cons_self ..)
    exact absurd ((h x.1).1 (hasL_cons.2 (.inl ⟨Int.le_refl _, this.2.1⟩))) not_hasL_nil
  | x :: a, y :: b, ha, hb, h => by
    have hx := ha.1 x (List.mem_cons_self ..)
    have hy := hb.1 y (List.mem_cons_self ..)
    unfold okP at hx hy
    have lo1 : ∀ z, hasL (x :: a) z → x.1 ≤ z := fun z hz => by
      rcases hasL_cons.1 hz with h1 | h1
      · exact h1.1
      · have := ha.above h1; omega
    have lo2 : ∀ z, hasL (y :: b) z → y.1 ≤ z := fun z hz => by
      rcases hasL_cons.1 hz with h1 | h1
      · exact h1.1
      · have := hb.above h1; omega
    have e1 : x.1 = y.1 := by
      have h1 := lo2 _ ((h x.1).1 (hasL_cons.2 (.inl ⟨Int.le_refl _, hx.2.1⟩)))
      have h2 := lo1 _ ((h y.1).2 (hasL_cons.2 (.inl ⟨Int.le_refl _, hy.2.1⟩)))
      omega
    have e2 : x.2 = y.2 := by
      rcases Int.lt_trichotomy x.2 y.2 with h1 | h1 | h1
      · have := (h (x.2 + 1)).2 (hasL_cons.2 (.inl ⟨by omega, by omega⟩))
        rcases hasL_cons.1 this with h2 | h2
        · omega
        · have := ha.above h2; omega
      · exact h1
      · have := (h (y.2 + 1)).1 (hasL_cons.2 (.inl ⟨by omega, by omega⟩))
        rcases hasL_cons.1 this with h2 | h2
        · omega
        · have := hb.above h2; omega
    have exy : x = y := Prod.ext e1 e2
    subst exy
    have hrest : ∀ z, hasL a z ↔ hasL b z := by
      intro z
      constructor
      · intro hz
        have hlt := ha.above hz
        rcases hasL_cons.1 ((h z).1 (hasL_cons.2 (.inr hz))) with h1 | h1
        · omega
        · exact h1
      · intro hz
        have hlt := hb.above hz
        rcases hasL_cons.1 ((h z).2 (hasL_cons.2 (.inr hz))) with h1 | h1
        · omega
        · exact h1
    rw [canon ha.tail hb.tail hrest]
theorem hasL_append {a b : List (Int × Int)} {y : Int} : hasL (a ++ b) y ↔ hasL a y ∨ hasL b y := by
  constructor
  · rintro ⟨z, hz, h⟩
    rcases List.mem_append.1 hz with hz | hz
    · exact .inl ⟨z, hz, h⟩
    · exact .inr ⟨z, hz, h⟩
  · rintro (⟨z, hz, h⟩ | ⟨z, hz, h⟩)
    · exact ⟨z, List.mem_append_left _ hz, h⟩
    · exact ⟨z, List.mem_append_right _ hz, h⟩
theorem hasL_one {x : Int × Int} {y : Int} : hasL [x] y ↔ x.1 ≤ y ∧ y ≤ x.2 := by rw [hasL_cons]; simp [not_hasL_nil]
theorem rightP_snoc {l : List (Int × Int)} {x : Int × Int} : RightP (l ++ [x]) ↔ RightP l ∧ okP x ∧ ∀ z ∈ l, z.2 + 1 < x.1 := by
  unfold RightP
  rw [List.pairwise_append]
  constructor
  · rintro ⟨h1, h2, _, h4⟩
    exact ⟨⟨fun y hy => h1 y (List.mem_append_left _ hy), h2⟩, h1 x (by simp), fun z hz => h4 z hz x (by simp)⟩
  · rintro ⟨⟨h1, h2⟩, h3, h4⟩
    refine ⟨fun y hy => ?_, h2, List.pairwise_singleton _ _, fun z hz y hy => by rw [List.mem_singleton.1 hy]; exact h4 z hz⟩
    rcases List.mem_append.1 hy with hy | hy
    · exact h1 y hy
    · rw [List.mem_singleton.1 hy]; exact h3
/-- joining rising runs -/
theorem join_spec : ∀ (d out : List (Int × Int)), RightP out → (∀ x ∈ d, okP x) → d.Pairwise (fun x y => x.1 ≤ y.1) → (∀ b ∈ out, ∀ x ∈ d, b.1 ≤ x.1) →
    RightP (d.foldl joinStep out) ∧ ∀ y, hasL (d.foldl joinStep out) y ↔ hasL out y ∨ hasL d y
  | [], out, ho, _, _, _ => ⟨ho, fun y => by simp [not_hasL_nil]⟩
  | r :: d, out, ho, hd, hs, hb => by
    have hr := hd r (List.mem_cons_self ..)
    have hs' := List.pairwise_cons.1 hs
    have key : RightP (joinStep out r) ∧ (∀ y, hasL (joinStep out r) y ↔ hasL out y ∨ (r.1 ≤ y ∧ y ≤ r.2)) ∧ (∀ b ∈ joinStep out r, b.1 ≤ r.1) := by
      rcases nil_or_snoc out with rfl | ⟨init, b, rfl⟩
      · refine ⟨⟨by simpa [joinStep] using hr, by simp [joinStep]⟩, fun y => ?_, by simp [joinStep]⟩
        have : joinStep [] r = [r] := by simp [joinStep]
        rw [this, hasL_one]; simp [not_hasL_nil]
      · rw [joinStep_snoc]
        obtain ⟨hi, hob, hlt⟩ := rightP_snoc.1 ho
        have hbr := hb b (by simp) r (List.mem_cons_self ..)
        unfold okP at hr hob
        have hbi : ∀ z ∈ init, z.1 ≤ r.1 := fun z hz => hb z (by simp [hz]) r (List.mem_cons_self ..)
        split
        · next hle =>
          refine ⟨rightP_snoc.2 ⟨hi, ⟨hob.1, by dsimp only; split <;> omega, by dsimp only; split <;> omega⟩, hlt⟩, fun y => ?_, fun z hz => ?_⟩
          · rw [hasL_append, hasL_append, hasL_one, hasL_one]
            dsimp only
            constructor
            · rintro (h | ⟨h1, h2⟩)
              · exact .inl (.inl h)
              · split at h2
                · by_cases hy : y ≤ b.2
                  · exact .inl (.inr ⟨h1, hy⟩)
                  · exact .inr ⟨by omega, h2⟩
                · exact .inl (.inr ⟨h1, h2⟩)
            · rintro ((h | ⟨h1, h2⟩) | ⟨h1, h2⟩)
              · exact .inl h
              · exact .inr ⟨h1, by split <;> omega⟩
              · exact .inr ⟨by omega, by split <;> omega⟩
          · rcases List.mem_append.1 hz with hz | hz
            · exact hbi z hz
            · rw [List.mem_singleton.1 hz]; exact hbr
        · next hgt =>
          refine ⟨rightP_snoc.2 ⟨ho, hr, fun z hz => ?_⟩, fun y => by rw [hasL_append, hasL_one], fun z hz => ?_⟩
          · rcases List.mem_append.1 hz with hz | hz
            · have := hlt z hz; omega
            · rw [List.mem_singleton.1 hz]; omega
          · rcases List.mem_append.1 hz with hz | hz
            · rcases List.mem_append.1 hz with hz | hz
              · exact hbi z hz
              · rw [List.mem_singleton.1 hz]; exact hbr
            · rw [List.mem_singleton.1 hz]; exact Int.le_refl _
    obtain ⟨k1, k2, k3⟩ := key
    have ih := join_spec d (joinStep out r) k1 (fun x hx => hd x (List.mem_cons_of_mem _ hx)) hs'.2 (fun b hb2 x hx => Int.le_trans (k3 b hb2) (hs'.1 x hx))
    refine ⟨ih.1, fun y => ?_⟩
    rw [List.foldl_cons, ih.2 y, k2 y, hasL_cons]
    constructor
    · rintro ((h | h) | h)
      · exact .inl h
      · exact .inr (.inl h)
      · exact .inr (.inr h)
    · rintro (h | h | h)
      · exact .inl (.inl h)
      · exact .inl (.inr h)
      · exact .inr h
end Go.Proofs.Ytpifafhcjloncaa
