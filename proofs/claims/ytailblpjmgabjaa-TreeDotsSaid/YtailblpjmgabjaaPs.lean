/- What is proved: the plain law of sets of runs. Conditions: none. -/
import Derived.Test.YtailblpjmgabjaaRows
import Derived.Test.YtailblpjmgabjaaTf
import Derived.Test.YtailblpjmgabjaaTh
import Derived.Test.YtailblpjmgabjaaTp
import Derived.Test.YtailblpjmgabjaaEn
namespace Go.Proofs.Ytailblpjmgabjaa
set_option linter.unusedSimpArgs false
set_option linter.unusedVariables false
def okNum (x : Int) : Bool := decide (1 ≤ x) && decide (x ≤ 1099511627776)
def one (x : Int) : Int × Int := (x, x)
theorem nil_or_snoc {α : Type} (l : List α) : l = [] ∨ ∃ init b, l = init ++ [b] := by
  rcases List.eq_nil_or_concat l with h | ⟨i, b, h⟩
  · exact .inl h
  · exact .inr ⟨i, b, by rw [h, List.concat_eq_append]⟩
def joinStep (out : List (Int × Int)) (r : Int × Int) : List (Int × Int) :=
  match out.getLast? with
  | some b => if r.1 ≤ b.2 + 1 then out.dropLast ++ [(b.1, if r.2 > b.2 then r.2 else b.2)] else out ++ [r]
  | none => [r]
theorem joinStep_snoc (init : List (Int × Int)) (b r : Int × Int) : joinStep (init ++ [b]) r = if r.1 ≤ b.2 + 1 then init ++ [(b.1, if r.2 > b.2 then r.2 else b.2)] else init ++ [b] ++ [r] := by
  simp [joinStep]
theorem joinStep_bound {B : Int} : ∀ (l : List (Int × Int)) (out : List (Int × Int)), (∀ x ∈ out, x.2 ≤ B ∧ -B ≤ x.2) → (∀ x ∈ l, x.2 ≤ B ∧ -B ≤ x.2) → ∀ x ∈ l.foldl joinStep out, x.2 ≤ B ∧ -B ≤ x.2
  | [], out, ho, _ => ho
  | r :: l, out, ho, hl => by
    refine joinStep_bound l _ ?_ (fun x hx => hl x (List.mem_cons_of_mem _ hx))
    have hr := hl r (List.mem_cons_self ..)
    rcases nil_or_snoc out with rfl | ⟨init, b, rfl⟩
    · intro x hx
      simp [joinStep] at hx
      subst hx; exact hr
    · rw [joinStep_snoc]
      have hb := ho b (by simp)
      intro x hx
      split at hx
      · simp only [List.mem_append, List.mem_singleton] at hx
        rcases hx with hx | rfl
        · exact ho x (by simp [hx])
        · dsimp only; split <;> omega
      · simp only [List.mem_append, List.mem_singleton] at hx
        rcases hx with (hx | rfl) | rfl
        · exact ho x (by simp [hx])
        · exact hb
        · exact hr
theorem joinStep_len : ∀ (l : List (Int × Int)) (out : List (Int × Int)), (l.foldl joinStep out).length ≤ out.length + l.length
  | [], out => by simp
  | r :: l, out => by
    refine Nat.le_trans (joinStep_len l _) ?_
    have : (joinStep out r).length ≤ out.length + 1 := by
      rcases nil_or_snoc out with rfl | ⟨init, b, rfl⟩
      · simp [joinStep]
      · rw [joinStep_snoc]; split <;> simp
    simp only [List.length_cons]; omega
def hasL (l : List (Int × Int)) (y : Int) : Prop := ∃ x ∈ l, x.1 ≤ y ∧ y ≤ x.2
def okP (x : Int × Int) : Prop := 1 ≤ x.1 ∧ x.1 ≤ x.2 ∧ x.2 ≤ 1099511627776
def RightP (l : List (Int × Int)) : Prop := (∀ x ∈ l, okP x) ∧ l.Pairwise (fun x y => x.2 + 1 < y.1)
theorem RightP.tail {x : Int × Int} {l : List (Int × Int)} (h : RightP (x :: l)) : RightP l := ⟨fun y hy => h.1 y (List.mem_cons_of_mem _ hy), (List.pairwise_cons.1 h.2).2⟩
theorem RightP.above {x : Int × Int} {l : List (Int × Int)} (h : RightP (x :: l)) {y : Int} (hy : hasL l y) : x.2 + 1 < y := by
  obtain ⟨z, hz, h1, h2⟩ := hy
  have := (List.pairwise_cons.1 h.2).1 z hz
  omega
theorem hasL_cons {x : Int × Int} {l : List (Int × Int)} {y : Int} : hasL (x :: l) y ↔ (x.1 ≤ y ∧ y ≤ x.2) ∨ hasL l y := by
  constructor
  · rintro ⟨z, hz, h⟩
    rcases List.mem_cons.1 hz with rfl | hz
    · exact .inl h
    · exact .inr ⟨z, hz, h⟩
  · rintro (h | ⟨z, hz, h⟩)
    · exact ⟨x, List.mem_cons_self .., h⟩
    · exact ⟨z, List.mem_cons_of_mem _ hz, h⟩
theorem not_hasL_nil {y : Int} : ¬ hasL [] y := by rintro ⟨z, hz, _⟩; cases hz
/-- a right list is fixed by its numbers -/
theorem canonR : ∀ {a b : List (Int × Int)}, RightP a → RightP b → (∀ y, hasL a y ↔ hasL b y) → a = b
  | [], [], _, _, _ => rfl
  | [], y :: b, _, hb, h => by
    have := hb.1 y (List.mem_cons_self ..)
    exact absurd ((h y.1).2 (hasL_cons.2 (.inl ⟨Int.le_refl _, this.2.1⟩))) not_hasL_nil
  | x :: a, [], ha, _, h => by
    have := ha.1 x (List.mem_cons_self ..)
    exact absurd ((h x.1).1 (hasL_cons.2 (.inl ⟨Int.le_refl _, this.2.1⟩))) not_hasL_nil
  | x :: a, y :: b, ha, hb, h => by
    have hx := ha.1 x (List.mem_cons_self ..)
    have hy := hb.1 y (List.mem_cons_self ..)
    unfold okP at hx hy
    have lo1 : ∀ z, hasL (x :: a) z → x.1 ≤ z := fun z hz => by
      rcases hasL_cons.1 hz with h1 | h1
      · exact h1.1
      · have := ha.above h1; omega
    have lo2 : ∀ z, hasL (y :: b) z → y.1 ≤ z := fun z hz => by
      rcases hasL_cons.1 hz with h1 | h1
      · exact h1.1
      · have := hb.above h1; omega
    have e1 : x.1 = y.1 := by
      have h1 := lo2 _ ((h x.1).1 (hasL_cons.2 (.inl ⟨Int.le_refl _, hx.2.1⟩)))
      have h2 := lo1 _ ((h y.1).2 (hasL_cons.2 (.inl ⟨Int.le_refl _, hy.2.1⟩)))
      omega
    have e2 : x.2 = y.2 := by
      rcases Int.lt_trichotomy x.2 y.2 with h1 | h1 | h1
      · have := (h (x.2 + 1)).2 (hasL_cons.2 (.inl ⟨by omega, by omega⟩))
        rcases hasL_cons.1 this with h2 | h2
        · omega
        · have := ha.above h2; omega
      · exact h1
      · have := (h (y.2 + 1)).1 (hasL_cons.2 (.inl ⟨by omega, by omega⟩))
        rcases hasL_cons.1 this with h2 | h2
        · omega
        · have := hb.above h2; omega
    have exy : x = y := Prod.ext e1 e2
    subst exy
    have hrest : ∀ z, hasL a z ↔ hasL b z := by
      intro z
      constructor
      · intro hz
        have hlt := ha.above hz
        rcases hasL_cons.1 ((h z).1 (hasL_cons.2 (.inr hz))) with h1 | h1
        · omega
        · exact h1
      · intro hz
        have hlt := hb.above hz
        rcases hasL_cons.1 ((h z).2 (hasL_cons.2 (.inr hz))) with h1 | h1
        · omega
        · exact h1
    rw [canonR ha.tail hb.tail hrest]
theorem hasL_append {a b : List (Int × Int)} {y : Int} : hasL (a ++ b) y ↔ hasL a y ∨ hasL b y := by
  constructor
  · rintro ⟨z, hz, h⟩
    rcases List.mem_append.1 hz with hz | hz
    · exact .inl ⟨z, hz, h⟩
    · exact .inr ⟨z, hz, h⟩
  · rintro (⟨z, hz, h⟩ | ⟨z, hz, h⟩)
    · exact ⟨z, List.mem_append_left _ hz, h⟩
    · exact ⟨z, List.mem_append_right _ hz, h⟩
theorem hasL_one {x : Int × Int} {y : Int} : hasL [x] y ↔ x.1 ≤ y ∧ y ≤ x.2 := by rw [hasL_cons]; simp [not_hasL_nil]
theorem rightP_snoc {l : List (Int × Int)} {x : Int × Int} : RightP (l ++ [x]) ↔ RightP l ∧ okP x ∧ ∀ z ∈ l, z.2 + 1 < x.1 := by
  unfold RightP
  rw [List.pairwise_append]
  constructor
  · rintro ⟨h1, h2, _, h4⟩
    exact ⟨⟨fun y hy => h1 y (List.mem_append_left _ hy), h2⟩, h1 x (by simp), fun z hz => h4 z hz x (by simp)⟩
  · rintro ⟨⟨h1, h2⟩, h3, h4⟩
    refine ⟨fun y hy => ?_, h2, List.pairwise_singleton _ _, fun z hz y hy => by rw [List.mem_singleton.1 hy]; exact h4 z hz⟩
    rcases List.mem_append.1 hy with hy | hy
    · exact h1 y hy
    · rw [List.mem_singleton.1 hy]; exact h3
/-- joining rising runs -/
theorem join_spec : ∀ (d out : List (Int × Int)), RightP out → (∀ x ∈ d, okP x) → d.Pairwise (fun x y => x.1 ≤ y.1) → (∀ b ∈ out, ∀ x ∈ d, b.1 ≤ x.1) →
    RightP (d.foldl joinStep out) ∧ ∀ y, hasL (d.foldl joinStep out) y ↔ hasL out y ∨ hasL d y
  | [], out, ho, _, _, _ => ⟨ho, fun y => by simp [not_hasL_nil]⟩
  | r :: d, out, ho, hd, hs, hb => by
    have hr := hd r (List.mem_cons_self ..)
    have hs' := List.pairwise_cons.1 hs
    have key : RightP (joinStep out r) ∧ (∀ y, hasL (joinStep out r) y ↔ hasL out y ∨ (r.1 ≤ y ∧ y ≤ r.2)) ∧ (∀ b ∈ joinStep out r, b.1 ≤ r.1) := by
      rcases nil_or_snoc out with rfl | ⟨init, b, rfl⟩
      · refine ⟨⟨by simpa [joinStep] using hr, by simp [joinStep]⟩, fun y => ?_, by simp [joinStep]⟩
        have : joinStep [] r = [r] := by simp [joinStep]
        rw [this, hasL_one]; simp [not_hasL_nil]
      · rw [joinStep_snoc]
        obtain ⟨hi, hob, hlt⟩ := rightP_snoc.1 ho
        have hbr := hb b (by simp) r (List.mem_cons_self ..)
        unfold okP at hr hob
        have hbi : ∀ z ∈ init, z.1 ≤ r.1 := fun z hz => hb z (by simp [hz]) r (List.mem_cons_self ..)
        split
        · next hle =>
          refine ⟨rightP_snoc.2 ⟨hi, ⟨hob.1, by dsimp only; split <;> omega, by dsimp only; split <;> omega⟩, hlt⟩, fun y => ?_, fun z hz => ?_⟩
          · rw [hasL_append, hasL_append, hasL_one, hasL_one]
            dsimp only
            constructor
            · rintro (h | ⟨h1, h2⟩)
              · exact .inl (.inl h)
              · split at h2
                · by_cases hy : y ≤ b.2
                  · exact .inl (.inr ⟨h1, hy⟩)
                  · exact .inr ⟨by omega, h2⟩
                · exact .inl (.inr ⟨h1, h2⟩)
            · rintro ((h | ⟨h1, h2⟩) | ⟨h1, h2⟩)
              · exact .inl h
              · exact .inr ⟨h1, by split <;> omega⟩
              · exact .inr ⟨by omega, by split <;> omega⟩
          · rcases List.mem_append.1 hz with hz | hz
            · exact hbi z hz
            · rw [List.mem_singleton.1 hz]; exact hbr
        · next hgt =>
          refine ⟨rightP_snoc.2 ⟨ho, hr, fun z hz => ?_⟩, fun y => by rw [hasL_append, hasL_one], fun z hz => ?_⟩
          · rcases List.mem_append.1 hz with hz | hz
            · have := hlt z hz; omega
            · rw [List.mem_singleton.1 hz]; omega
          · rcases List.mem_append.1 hz with hz | hz
            · rcases List.mem_append.1 hz with hz | hz
              · exact hbi z hz
              · rw [List.mem_singleton.1 hz]; exact hbr
            · rw [List.mem_singleton.1 hz]; exact Int.le_refl _
    obtain ⟨k1, k2, k3⟩ := key
    have ih := join_spec d (joinStep out r) k1 (fun x hx => hd x (List.mem_cons_of_mem _ hx)) hs'.2 (fun b hb2 x hx => Int.le_trans (k3 b hb2) (hs'.1 x hx))
    refine ⟨ih.1, fun y => ?_⟩
    rw [List.foldl_cons, ih.2 y, k2 y, hasL_cons]
    constructor
    · rintro ((h | h) | h)
      · exact .inl h
      · exact .inr (.inl h)
      · exact .inr (.inr h)
    · rintro (h | h | h)
      · exact .inl (.inl h)
      · exact .inl (.inr h)
      · exact .inr h
def nextF (above : Int) (acc : Option Int) (x : Int) : Option Int := if above < x then (match acc with | none => some x | some b => if x < b then some x else acc) else acc
theorem nextF_take {above : Int} {acc : Option Int} {x : Int} (h1 : above < x) (h2 : (!acc.isSome) = true ∨ x < acc.getD 0) : nextF above acc x = some x := by
  cases acc with
  | none => simp [nextF, h1]
  | some b => have : x < b := by simpa using h2
              simp [nextF, h1, this]
theorem nextF_keep {above : Int} {acc : Option Int} {x : Int} (h : ¬ above < x ∨ ((!acc.isSome) = false ∧ ¬ x < acc.getD 0)) : nextF above acc x = acc := by
  rcases h with h | ⟨h1, h2⟩
  · simp [nextF, h]
  · cases acc with
    | none => simp at h1
    | some b => have : ¬ x < b := by simpa using h2
                simp [nextF, this]
theorem next_spec {above : Int} : ∀ (l : List Int) (acc : Option Int), (∀ b, acc = some b → above < b) →
    match l.foldl (nextF above) acc with
    | none => acc = none ∧ ∀ x ∈ l, ¬ above < x
    | some b => above < b ∧ (acc = some b ∨ b ∈ l) ∧ (∀ x ∈ l, above < x → b ≤ x) ∧ (∀ c, acc = some c → b ≤ c)
  | [], acc, h => by
    cases acc with
    | none => exact ⟨rfl, by simp⟩
    | some b => exact ⟨h b rfl, .inl rfl, by simp, fun c hc => by cases hc; exact Int.le_refl _⟩
  | y :: l, acc, h => by
    have key : (∀ b, nextF above acc y = some b → above < b) ∧ (nextF above acc y = none → acc = none ∧ ¬ above < y) ∧ (∀ b, nextF above acc y = some b → (acc = some b ∨ b = y) ∧ (above < y → b ≤ y) ∧ (∀ c, acc = some c → b ≤ c)) := by
      unfold nextF
      by_cases hy : above < y
      · rw [if_pos hy]
        cases acc with
        | none => exact ⟨fun b hb => by cases hb; exact hy, fun hb => (by cases hb), fun b hb => by cases hb; exact ⟨.inr rfl, fun _ => Int.le_refl _, by simp⟩⟩
        | some e =>
          by_cases hlt : y < e
          · simp only [hlt, if_true]
            exact ⟨fun b hb => by cases hb; exact hy, fun hb => (by cases hb), fun b hb => by cases hb; exact ⟨.inr rfl, fun _ => Int.le_refl _, fun c hc => by cases hc; omega⟩⟩
          · simp only [hlt, if_false]
            exact ⟨fun b hb => by cases hb; exact h _ rfl, fun hb => (by cases hb), fun b hb => by cases hb; exact ⟨.inl rfl, fun _ => by omega, fun c hc => by cases hc; exact Int.le_refl _⟩⟩
      · rw [if_neg hy]
        exact ⟨h, fun hb => ⟨hb, hy⟩, fun b hb => ⟨.inl hb, fun h' => absurd h' hy, fun c hc => by rw [hb] at hc; cases hc; exact Int.le_refl _⟩⟩
    have ih := next_spec l (nextF above acc y) key.1
    rw [List.foldl_cons]
    cases hf : l.foldl (nextF above) (nextF above acc y) with
    | none =>
      rw [hf] at ih
      have := key.2.1 ih.1
      exact ⟨this.1, fun x hx => by rcases List.mem_cons.1 hx with rfl | hx; exact this.2; exact ih.2 x hx⟩
    | some d =>
      rw [hf] at ih
      obtain ⟨h1, h2, h3, h4⟩ := ih
      refine ⟨h1, ?_, ?_, ?_⟩
      · rcases h2 with h2 | h2
        · rcases (key.2.2 d h2).1 with h' | h'
          · exact .inl h'
          · exact .inr (by rw [h']; exact List.mem_cons_self ..)
        · exact .inr (List.mem_cons_of_mem _ h2)
      · intro x hx hr
        rcases List.mem_cons.1 hx with rfl | hx
        · cases hl : nextF above acc x with
          | none => exact absurd hr (key.2.1 hl).2
          | some e => exact Int.le_trans (h4 e hl) ((key.2.2 e hl).2.1 hr)
        · exact h3 x hx hr
      · intro x hx
        cases hl : nextF above acc y with
        | none => rw [(key.2.1 hl).1] at hx; cases hx
        | some e => exact Int.le_trans (h4 e hl) ((key.2.2 e hl).2.2 x hx)
/-- one number more, above all -/
theorem snoc_spec {l : List Int} {out : List (Int × Int)} {prev x : Int} (hR : RightP out) (hm : ∀ y, hasL out y ↔ y ∈ l ∧ y ≤ prev) (hx : x ∈ l) (hlt : prev < x) (hmin : ∀ z ∈ l, prev < z → x ≤ z) (hx1 : 1 ≤ x ∧ x ≤ 1099511627776) :
    (∀ init b, out = init ++ [b] → b.2 = x - 1 → RightP (init ++ [(b.1, x)]) ∧ ∀ y, hasL (init ++ [(b.1, x)]) y ↔ y ∈ l ∧ y ≤ x) ∧
    ((∀ init b, out = init ++ [b] → b.2 ≠ x - 1) → RightP (out ++ [(x, x)]) ∧ ∀ y, hasL (out ++ [(x, x)]) y ↔ y ∈ l ∧ y ≤ x) := by
  have hmem : ∀ y, (y ∈ l ∧ y ≤ x) ↔ (hasL out y ∨ y = x) := by
    intro y
    rw [hm y]
    constructor
    · rintro ⟨h1, h2⟩
      by_cases h3 : y ≤ prev
      · exact .inl ⟨h1, h3⟩
      · have := hmin y h1 (by omega)
        exact .inr (by omega)
    · rintro (⟨h1, h2⟩ | rfl)
      · exact ⟨h1, by omega⟩
      · exact ⟨hx, Int.le_refl _⟩
  have hz2 : ∀ z ∈ out, z.2 < x := by
    intro z hz
    have hk := hR.1 z hz
    have := (hm z.2).1 ⟨z, hz, hk.2.1, Int.le_refl _⟩
    omega
  constructor
  · rintro init b rfl hb
    obtain ⟨h1, h2, h3⟩ := rightP_snoc.1 hR
    unfold okP at h2
    refine ⟨rightP_snoc.2 ⟨h1, ⟨h2.1, by dsimp only; omega, by dsimp only; omega⟩, h3⟩, fun y => ?_⟩
    rw [hmem y, hasL_append, hasL_append, hasL_one, hasL_one]
    dsimp only
    constructor
    · rintro (h | ⟨h4, h5⟩)
      · exact .inl (.inl h)
      · by_cases h6 : y ≤ b.2
        · exact .inl (.inr ⟨h4, h6⟩)
        · exact .inr (by omega)
    · rintro ((h | ⟨h4, h5⟩) | rfl)
      · exact .inl h
      · exact .inr ⟨h4, by omega⟩
      · exact .inr ⟨by omega, Int.le_refl _⟩
  · intro hne
    refine ⟨rightP_snoc.2 ⟨hR, ⟨hx1.1, Int.le_refl _, hx1.2⟩, fun z hz => ?_⟩, fun y => ?_⟩
    · have h1 := hz2 z hz
      rcases nil_or_snoc out with rfl | ⟨init, b, rfl⟩
      · cases hz
      · have h2 := hne init b rfl
        have h3 := hz2 b (by simp)
        obtain ⟨_, h5, h6⟩ := rightP_snoc.1 hR
        unfold okP at h5
        rcases List.mem_append.1 hz with hz | hz
        · have := h6 z hz; dsimp only; omega
        · rw [List.mem_singleton.1 hz]; dsimp only; omega
    · rw [hmem y, hasL_append, hasL_one]
      dsimp only
      constructor
      · rintro (h | ⟨h4, h5⟩)
        · exact .inl h
        · exact .inr (by omega)
      · rintro (h | rfl)
        · exact .inl h
        · exact .inr ⟨Int.le_refl _, Int.le_refl _⟩
end Go.Proofs.Ytailblpjmgabjaa
