/- What is proved: the plain law of what is met and what is left. Conditions: none. -/
import Derived.Test.YtklionofaknjcaaRh
namespace Go.Proofs.Ytklionofaknjcaa
set_option linter.unusedVariables false
set_option linter.unusedSimpArgs false
theorem rightP_nil : RightP [] := ⟨by simp, List.Pairwise.nil⟩
theorem rightP_cons {x : Int × Int} {l : List (Int × Int)} : RightP (x :: l) ↔ okP x ∧ RightP l ∧ ∀ z ∈ l, x.2 + 1 < z.1 := by
  unfold RightP
  rw [List.pairwise_cons]
  constructor
  · rintro ⟨h1, h2, h3⟩
    exact ⟨h1 x (by simp), ⟨fun y hy => h1 y (by simp [hy]), h3⟩, h2⟩
  · rintro ⟨h1, ⟨h2, h3⟩, h4⟩
    exact ⟨fun y hy => by rcases List.mem_cons.1 hy with rfl | h; exact h1; exact h2 y h, h4, h3⟩
theorem hasL_ok {l : List (Int × Int)} (h : RightP l) {z : Int × Int} (hz : z ∈ l) : hasL l z.1 := ⟨z, hz, Int.le_refl _, (h.1 z hz).2.1⟩
theorem meet_spec : ∀ (n : Nat) (a b : List (Int × Int)), a.length + b.length ≤ n → RightP a → RightP b → RightP (meetL a b) ∧ (∀ y, hasL (meetL a b) y ↔ hasL a y ∧ hasL b y) ∧ (meetL a b).length ≤ a.length + b.length
  | _, [], b, _, _, _ => by
    rw [meetL]
    exact ⟨rightP_nil, fun y => ⟨fun h => absurd h not_hasL_nil, fun h => absurd h.1 not_hasL_nil⟩, Nat.zero_le _⟩
  | _, x :: a, [], _, _, _ => by
    rw [meetL]
    exact ⟨rightP_nil, fun y => ⟨fun h => absurd h not_hasL_nil, fun h => absurd h.2 not_hasL_nil⟩, Nat.zero_le _⟩
  | 0, x :: a, y :: b, hn, _, _ => by simp at hn
  | n + 1, x :: a, y :: b, hn, ha, hb => by
    have hx := ha.1 x (List.mem_cons_self ..)
    have hy := hb.1 y (List.mem_cons_self ..)
    unfold okP at hx hy
    simp only [List.length_cons] at hn
    have hmx : x.1 ≤ mx x.1 y.1 ∧ y.1 ≤ mx x.1 y.1 ∧ (mx x.1 y.1 = x.1 ∨ mx x.1 y.1 = y.1) := by unfold mx; split <;> omega
    have hmn : mn x.2 y.2 ≤ x.2 ∧ mn x.2 y.2 ≤ y.2 ∧ (mn x.2 y.2 = x.2 ∨ mn x.2 y.2 = y.2) := by unfold mn; split <;> omega
    rw [meetL]
    generalize mx x.1 y.1 = lo at hmx ⊢
    generalize mn x.2 y.2 = hi at hmn ⊢
    have main : ∀ (rest : List (Int × Int)), RightP rest → (∀ v, hasL rest v → hi + 1 < v) → rest.length ≤ a.length + b.length + 1 → (∀ v, (lo ≤ v ∧ v ≤ hi) ∨ hasL rest v ↔ hasL (x :: a) v ∧ hasL (y :: b) v) →
        RightP ((if lo ≤ hi then [(lo, hi)] else []) ++ rest) ∧ (∀ v, hasL ((if lo ≤ hi then [(lo, hi)] else []) ++ rest) v ↔ hasL (x :: a) v ∧ hasL (y :: b) v) ∧ ((if lo ≤ hi then [(lo, hi)] else []) ++ rest).length ≤ (x :: a).length + (y :: b).length := by
      intro rest h1 h2 h3 h4
      split
      · next hle =>
        refine ⟨rightP_cons.2 ⟨⟨by dsimp only; omega, hle, by dsimp only; omega⟩, h1, fun z hz => h2 z.1 (hasL_ok h1 hz)⟩, fun v => ?_, by simp; omega⟩
        rw [← h4 v]
        exact hasL_cons
      · next hgt =>
        refine ⟨h1, fun v => ?_, by simp; omega⟩
        rw [← h4 v]
        exact ⟨fun h => .inr h, fun h => by rcases h with h | h; omega; exact h⟩
    by_cases hc : x.2 < y.2
    · rw [if_pos hc]
      obtain ⟨i1, i2, i3⟩ := meet_spec n a (y :: b) (by simp; omega) ha.tail hb
      refine main _ i1 (fun v hv => ?_) (by simp at i3; omega) fun v => ?_
      · have := ha.above ((i2 v).1 hv).1
        omega
      · rw [i2 v, hasL_cons (x := x), hasL_cons (x := y)]
        constructor
        · rintro (h | ⟨h1, h2⟩)
          · exact ⟨.inl (by omega), .inl (by omega)⟩
          · exact ⟨.inr h1, h2⟩
        · rintro ⟨h1 | h1, h2⟩
          · rcases h2 with h2 | h2
            · exact .inl (by omega)
            · have := hb.above h2; omega
          · exact .inr ⟨h1, h2⟩
    · rw [if_neg hc]
      obtain ⟨i1, i2, i3⟩ := meet_spec n (x :: a) b (by simp; omega) ha hb.tail
      refine main _ i1 (fun v hv => ?_) (by simp at i3; omega) fun v => ?_
      · have := hb.above ((i2 v).1 hv).2
        omega
      · rw [i2 v, hasL_cons (x := x), hasL_cons (x := y)]
        constructor
        · rintro (h | ⟨h1, h2⟩)
          · exact ⟨.inl (by omega), .inl (by omega)⟩
          · exact ⟨h1, .inr h2⟩
        · rintro ⟨h1, h2 | h2⟩
          · rcases h1 with h1 | h1
            · exact .inl (by omega)
            · have := ha.above h1; omega
          · exact .inr ⟨h1, h2⟩
theorem mone_spec : ∀ (b out : List (Int × Int)) (r : Int × Int), RightP b → RightP out → 1 ≤ r.1 → r.2 ≤ 1099511627776 → (∀ z ∈ out, z.2 + 1 < r.1) →
    RightP (mone b out r) ∧ (∀ y, hasL (mone b out r) y ↔ hasL out y ∨ (r.1 ≤ y ∧ y ≤ r.2 ∧ ¬ hasL b y)) ∧ (∀ z ∈ mone b out r, z ∈ out ∨ z.2 ≤ r.2) ∧ (mone b out r).length ≤ out.length + b.length + 1
  | [], out, r, _, ho, h1, h2, h3 => by
    have hm : mone [] out r = if r.1 ≤ r.2 then out ++ [r] else out := rfl
    rw [hm]
    by_cases hle : r.1 ≤ r.2
    · rw [if_pos hle]
      refine ⟨rightP_snoc.2 ⟨ho, ⟨h1, hle, h2⟩, h3⟩, fun y => ?_, fun z hz => ?_, by simp⟩
      · rw [hasL_append, hasL_one]
        constructor
        · rintro (h | h)
          · exact .inl h
          · exact .inr ⟨h.1, h.2, not_hasL_nil⟩
        · rintro (h | h)
          · exact .inl h
          · exact .inr ⟨h.1, h.2.1⟩
      · rcases List.mem_append.1 hz with h | h
        · exact .inl h
        · rw [List.mem_singleton.1 h]; exact .inr (Int.le_refl _)
    · rw [if_neg hle]
      exact ⟨ho, fun y => ⟨fun h => .inl h, fun h => by rcases h with h | h; exact h; omega⟩, fun z hz => .inl hz, by simp⟩
  | x :: b, out, r, hb, ho, h1, h2, h3 => by
    have hx := hb.1 x (List.mem_cons_self ..)
    unfold okP at hx
    have hst : mone (x :: b) out r = mone b (mstep (out, r) x).1 (mstep (out, r) x).2 := rfl
    rw [hst]
    simp only [mstep]
    by_cases hc : x.2 < r.1 ∨ r.2 < x.1
    · rw [if_pos hc]
      obtain ⟨i1, i2, i3, i4⟩ := mone_spec b out r hb.tail ho h1 h2 h3
      refine ⟨i1, fun y => (i2 y).trans ?_, i3, by simp; omega⟩
      rw [hasL_cons]
      constructor
      · rintro (h | ⟨k1, k2, k3⟩)
        · exact .inl h
        · exact .inr ⟨k1, k2, fun k => by rcases k with k | k; omega; exact k3 k⟩
      · rintro (h | ⟨k1, k2, k3⟩)
        · exact .inl h
        · exact .inr ⟨k1, k2, fun k => k3 (.inr k)⟩
    · rw [if_neg hc]
      dsimp only
      by_cases hl : r.1 < x.1
      · rw [if_pos hl]
        obtain ⟨i1, i2, i3, i4⟩ := mone_spec b (out ++ [(r.1, x.1 - 1)]) (x.2 + 1, r.2) hb.tail (rightP_snoc.2 ⟨ho, ⟨h1, by dsimp only; omega, by dsimp only; omega⟩, h3⟩) (by dsimp only; omega) h2 (fun z hz => by
          rcases List.mem_append.1 hz with h | h
          · have := h3 z h; dsimp only; omega
          · rw [List.mem_singleton.1 h]; dsimp only; omega)
        refine ⟨i1, fun y => (i2 y).trans ?_, fun z hz => ?_, by simp at i4 ⊢; omega⟩
        · rw [hasL_append, hasL_one, hasL_cons]
          dsimp only
          constructor
          · rintro ((h | h) | ⟨k1, k2, k3⟩)
            · exact .inl h
            · refine .inr ⟨h.1, by omega, fun k => ?_⟩
              rcases k with k | k
              · omega
              · have := hb.above k; omega
            · exact .inr ⟨by omega, k2, fun k => by rcases k with k | k; omega; exact k3 k⟩
          · rintro (h | ⟨k1, k2, k3⟩)
            · exact .inl (.inl h)
            · by_cases k4 : y < x.1
              · exact .inl (.inr ⟨k1, by omega⟩)
              · refine .inr ⟨?_, k2, fun k => k3 (.inr k)⟩
                by_cases k5 : y ≤ x.2
                · exact absurd (.inl ⟨by omega, k5⟩) k3
                · omega
        · rcases i3 z hz with h | h
          · rcases List.mem_append.1 h with h | h
            · exact .inl h
            · rw [List.mem_singleton.1 h]; exact .inr (by dsimp only; omega)
          · exact .inr h
      · rw [if_neg hl]
        obtain ⟨i1, i2, i3, i4⟩ := mone_spec b out (x.2 + 1, r.2) hb.tail ho (by dsimp only; omega) h2 (fun z hz => by have := h3 z hz; dsimp only; omega)
        refine ⟨i1, fun y => (i2 y).trans ?_, i3, by simp; omega⟩
        rw [hasL_cons]
        dsimp only
        constructor
        · rintro (h | ⟨k1, k2, k3⟩)
          · exact .inl h
          · exact .inr ⟨by omega, k2, fun k => by rcases k with k | k; omega; exact k3 k⟩
        · rintro (h | ⟨k1, k2, k3⟩)
          · exact .inl h
          · refine .inr ⟨?_, k2, fun k => k3 (.inr k)⟩
            by_cases k5 : y ≤ x.2
            · exact absurd (.inl ⟨by omega, k5⟩) k3
            · omega
theorem minus_go {b : List (Int × Int)} (hb : RightP b) : ∀ (a out : List (Int × Int)), RightP a → RightP out → (∀ z ∈ out, ∀ r ∈ a, z.2 + 1 < r.1) →
    RightP (a.foldl (mone b) out) ∧ (∀ y, hasL (a.foldl (mone b) out) y ↔ hasL out y ∨ (hasL a y ∧ ¬ hasL b y)) ∧ (a.foldl (mone b) out).length ≤ out.length + a.length * (b.length + 1)
  | [], out, _, ho, _ => ⟨ho, fun y => ⟨fun h => .inl h, fun h => by rcases h with h | h; exact h; exact absurd h.1 not_hasL_nil⟩, by simp⟩
  | r :: a, out, ha, ho, h => by
    have hr := ha.1 r (List.mem_cons_self ..)
    unfold okP at hr
    obtain ⟨i1, i2, i3, i4⟩ := mone_spec b out r hb ho hr.1 hr.2.2 (fun z hz => h z hz r (List.mem_cons_self ..))
    have hra := (rightP_cons.1 ha).2.2
    obtain ⟨j1, j2, j3⟩ := minus_go hb a (mone b out r) ha.tail i1 (fun z hz q hq => by
      rcases i3 z hz with k | k
      · exact h z k q (List.mem_cons_of_mem _ hq)
      · have := hra q hq; omega)
    refine ⟨j1, fun y => ?_, ?_⟩
    · rw [List.foldl_cons, j2 y, i2 y, hasL_cons]
      constructor
      · rintro ((k | k) | k)
        · exact .inl k
        · exact .inr ⟨.inl ⟨k.1, k.2.1⟩, k.2.2⟩
        · exact .inr ⟨.inr k.1, k.2⟩
      · rintro (k | ⟨k | k, k2⟩)
        · exact .inl (.inl k)
        · exact .inl (.inr ⟨k.1, k.2, k2⟩)
        · exact .inr ⟨k, k2⟩
    · rw [List.foldl_cons, List.length_cons, Nat.succ_mul]
      omega
theorem minus_spec {a b : List (Int × Int)} (ha : RightP a) (hb : RightP b) : RightP (minusL a b) ∧ (∀ y, hasL (minusL a b) y ↔ hasL a y ∧ ¬ hasL b y) ∧ (minusL a b).length ≤ a.length * (b.length + 1) := by
  obtain ⟨h1, h2, h3⟩ := minus_go hb a [] ha rightP_nil (by simp)
  refine ⟨h1, fun y => (h2 y).trans ⟨fun h => by rcases h with h | h; exact absurd h not_hasL_nil; exact h, fun h => .inr h⟩, by simpa [minusL] using h3⟩
end Go.Proofs.Ytklionofaknjcaa
