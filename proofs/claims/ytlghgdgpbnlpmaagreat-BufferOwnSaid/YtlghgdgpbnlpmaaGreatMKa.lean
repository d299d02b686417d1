/- What is proved: the plain law of sets of runs. Conditions: none. -/
import Derived.Test.YtlghgdgpbnlpmaaGreatRows
import Derived.Test.YtlghgdgpbnlpmaaGreatMTb
import Derived.Test.YtlghgdgpbnlpmaaGreatMTa
import Derived.Test.YtlghgdgpbnlpmaaGreatEn
namespace Go.Proofs.YtlghgdgpbnlpmaaGreat
set_option linter.unusedSimpArgs false
set_option linter.unusedVariables false
def okNum (x : Int) : Bool := decide (1 ≤ x) && decide (x ≤ 1099511627776)
def one (x : Int) : Int × Int := (x, x)
def okRun (x : Int × Int) : Bool := (decide (1 ≤ x.1) && decide (x.1 ≤ 1099511627776)) && (decide (1 ≤ x.2) && decide (x.2 ≤ 1099511627776)) && decide (x.1 ≤ x.2)
def goodAt (l : List (Int × Int)) (i : Nat) : Bool :=
  match l[i]? with
  | some x => okRun x && (decide (i = 0) || (match l[i - 1]? with | some y => decide (y.2 + 1 < x.1) | none => false))
  | none => false
def rightL (l : List (Int × Int)) : Bool := (List.range l.length).all (goodAt l)
theorem goodAt_eq {l : List (Int × Int)} {i : Nat} (h : i < l.length) : goodAt l i = (okRun l[i] && (decide (i = 0) || decide (l[i - 1].2 + 1 < l[i].1))) := by
  unfold goodAt
  rw [List.getElem?_eq_getElem h, List.getElem?_eq_getElem (show i - 1 < l.length by omega)]
theorem rightL_true {l : List (Int × Int)} (h : ∀ i, i < l.length → goodAt l i = true) : rightL l = true := by
  unfold rightL; rw [List.all_eq_true]; intro i hi; exact h i (List.mem_range.1 hi)
theorem rightL_false {l : List (Int × Int)} {i : Nat} (hi : i < l.length) (h : goodAt l i = false) : rightL l = false := by
  unfold rightL; rw [List.all_eq_false]; exact ⟨i, List.mem_range.2 hi, by rw [h]; decide⟩
theorem rightL_at {l : List (Int × Int)} (h : rightL l = true) {i : Nat} (hi : i < l.length) : goodAt l i = true := by
  unfold rightL at h; exact List.all_eq_true.1 h i (List.mem_range.2 hi)
theorem okRun_iff {x : Int × Int} : okRun x = true ↔ 1 ≤ x.1 ∧ x.1 ≤ x.2 ∧ x.2 ≤ 1099511627776 := by
  unfold okRun; simp only [Bool.and_eq_true, decide_eq_true_eq]; omega
theorem goodAt_iff {l : List (Int × Int)} {i : Nat} (h : i < l.length) : goodAt l i = true ↔ ((1 ≤ l[i].1 ∧ l[i].1 ≤ l[i].2 ∧ l[i].2 ≤ 1099511627776) ∧ (i = 0 ∨ l[i - 1].2 + 1 < l[i].1)) := by
  rw [goodAt_eq h, Bool.and_eq_true, okRun_iff, Bool.or_eq_true, decide_eq_true_eq, decide_eq_true_eq]
theorem goodAt_iff' {l : List (Int × Int)} {i : Nat} (h : i < l.length) : goodAt l i = false ↔ ¬ ((1 ≤ l[i].1 ∧ l[i].1 ≤ l[i].2 ∧ l[i].2 ≤ 1099511627776) ∧ (i = 0 ∨ l[i - 1].2 + 1 < l[i].1)) := by rw [← goodAt_iff h]; simp

theorem nil_or_snoc {α : Type} (l : List α) : l = [] ∨ ∃ init b, l = init ++ [b] := by
  rcases List.eq_nil_or_concat l with h | ⟨i, b, h⟩
  · exact .inl h
  · exact .inr ⟨i, b, by rw [h, List.concat_eq_append]⟩
def joinStep (out : List (Int × Int)) (r : Int × Int) : List (Int × Int) :=
  match out.getLast? with
  | some b => if r.1 ≤ b.2 + 1 then out.dropLast ++ [(b.1, if r.2 > b.2 then r.2 else b.2)] else out ++ [r]
  | none => [r]
theorem joinStep_snoc (init : List (Int × Int)) (b r : Int × Int) : joinStep (init ++ [b]) r = if r.1 ≤ b.2 + 1 then init ++ [(b.1, if r.2 > b.2 then r.2 else b.2)] else init ++ [b] ++ [r] := by
  simp [joinStep]
theorem joinStep_bound {B : Int} : ∀ (l : List (Int × Int)) (out : List (Int × Int)), (∀ x ∈ out, x.2 ≤ B ∧ -B ≤ x.2) → (∀ x ∈ l, x.2 ≤ B ∧ -B ≤ x.2) → ∀ x ∈ l.foldl joinStep out, x.2 ≤ B ∧ -B ≤ x.2
  | [], out, ho, _ => ho
  | r :: l, out, ho, hl => by
    refine joinStep_bound l _ ?_ (fun x hx => hl x (List.mem_cons_of_mem _ hx))
    have hr := hl r (List.mem_cons_self ..)
    rcases nil_or_snoc out with rfl | ⟨init, b, rfl⟩
    · intro x hx
      simp [joinStep] at hx
      subst hx; exact hr
    · rw [joinStep_snoc]
      have hb := ho b (by simp)
      intro x hx
      split at hx
      · simp only [List.mem_append, List.mem_singleton] at hx
        rcases hx with hx | rfl
        · exact ho x (by simp [hx])
        · dsimp only; split <;> omega
      · simp only [List.mem_append, List.mem_singleton] at hx
        rcases hx with (hx | rfl) | rfl
        · exact ho x (by simp [hx])
        · exact hb
        · exact hr
theorem joinStep_len : ∀ (l : List (Int × Int)) (out : List (Int × Int)), (l.foldl joinStep out).length ≤ out.length + l.length
  | [], out => by simp
  | r :: l, out => by
    refine Nat.le_trans (joinStep_len l _) ?_
    have : (joinStep out r).length ≤ out.length + 1 := by
      rcases nil_or_snoc out with rfl | ⟨init, b, rfl⟩
      · simp [joinStep]
      · rw [joinStep_snoc]; split <;> simp
    simp only [List.length_cons]; omega
def hasL (l : List (Int × Int)) (y : Int) : Prop := ∃ x ∈ l, x.1 ≤ y ∧ y ≤ x.2
def okP (x : Int × Int) : Prop := 1 ≤ x.1 ∧ x.1 ≤ x.2 ∧ x.2 ≤ 1099511627776
def RightP (l : List (Int × Int)) : Prop := (∀ x ∈ l, okP x) ∧ l.Pairwise (fun x y => x.2 + 1 < y.1)
theorem right_apart {l : List (Int × Int)} (h : rightL l = true) : ∀ (k i : Nat) (hi : i + k + 1 < l.length), l[i].2 + 1 < l[i + k + 1].1
  | 0, i, hi => by
    have := (goodAt_iff (l := l) (i := i + 1) (by omega)).1 (rightL_at h (by omega))
    simp only [Nat.add_sub_cancel] at this
    simp only [Nat.add_zero]
    omega
  | k + 1, i, hi => by
    have h1 := right_apart h k i (by omega)
    have h2 := (goodAt_iff (l := l) (i := i + (k + 1) + 1) (by omega)).1 (rightL_at h (by omega))
    have h3 := (goodAt_iff (l := l) (i := i + k + 1) (by omega)).1 (rightL_at h (by omega))
    simp only [Nat.add_sub_cancel] at h2
    simp only [← Nat.add_assoc] at h2 ⊢
    omega
theorem rightL_iff {l : List (Int × Int)} : rightL l = true ↔ RightP l := by
  constructor
  · intro h
    refine ⟨fun x hx => ?_, ?_⟩
    · obtain ⟨i, hi, rfl⟩ := List.getElem_of_mem hx
      exact ((goodAt_iff hi).1 (rightL_at h hi)).1
    · rw [List.pairwise_iff_getElem]
      intro i j hi hj hij
      have := right_apart h (j - i - 1) i (by omega)
      simp only [show i + (j - i - 1) + 1 = j by omega] at this
      exact this
  · intro h
    refine rightL_true fun i hi => (goodAt_iff hi).2 ⟨h.1 _ (List.getElem_mem _), ?_⟩
    rcases Nat.eq_zero_or_pos i with h0 | h0
    · exact .inl h0
    · exact .inr (List.pairwise_iff_getElem.1 h.2 (i - 1) i (by omega) hi (by omega))
theorem RightP.tail {x : Int × Int} {l : List (Int × Int)} (h : RightP (x :: l)) : RightP l := ⟨fun y hy => h.1 y (List.mem_cons_of_mem _ hy), (List.pairwise_cons.1 h.2).2⟩
theorem RightP.above {x : Int × Int} {l : List (Int × Int)} (h : RightP (x :: l)) {y : Int} (hy : hasL l y) : x.2 + 1 < y := by
  obtain ⟨z, hz, h1, h2⟩ := hy
  have := (List.pairwise_cons.1 h.2).1 z hz
  omega
theorem hasL_cons {x : Int × Int} {l : List (Int × Int)} {y : Int} : hasL (x :: l) y ↔ (x.1 ≤ y ∧ y ≤ x.2) ∨ hasL l y := by
  constructor
  · rintro ⟨z, hz, h⟩
    rcases List.mem_cons.1 hz with rfl | hz
    · exact .inl h
    · exact .inr ⟨z, hz, h⟩
  · rintro (h | ⟨z, hz, h⟩)
    · exact ⟨x, List.mem_cons_self .., h⟩
    · exact ⟨z, List.mem_cons_of_mem _ hz, h⟩
theorem not_hasL_nil {y : Int} : ¬ hasL [] y := by rintro ⟨z, hz, _⟩; cases hz
/-- a right list is fixed by its numbers -/
theorem canonR : ∀ {a b : List (Int × Int)}, RightP a → RightP b → (∀ y, hasL a y ↔ hasL b y) → a = b
  | [], [], _, _, _ => rfl
  | [], y :: b, _, hb, h => by
    have := hb.1 y (List.mem_cons_self ..)
    exact absurd ((h y.1).2 (hasL_cons.2 (.inl ⟨Int.le_refl _, this.2.1⟩))) not_hasL_nil
  | x :: a, [], ha, _, h => by
    have := ha.1 x (List.mem_cons_self ..)
    exact absurd ((h x.1).1 (hasL_cons.2 (.inl ⟨Int.le_refl _, this.2.1⟩))) not_hasL_nil
  | x :: a, y :: b, ha, hb, h => by
    have hx := ha.1 x (List.mem_cons_self ..)
    have hy := hb.1 y (List.mem_cons_self ..)
    unfold okP at hx hy
    have lo1 : ∀ z, hasL (x :: a) z → x.1 ≤ z := fun z hz => by
      rcases hasL_cons.1 hz with h1 | h1
      · exact h1.1
      · have := ha.above h1; omega
    have lo2 : ∀ z, hasL (y :: b) z → y.1 ≤ z := fun z hz => by
      rcases hasL_cons.1 hz with h1 | h1
      · exact h1.1
      · have := hb.above h1; omega
    have e1 : x.1 = y.1 := by
      have h1 := lo2 _ ((h x.1).1 (hasL_cons.2 (.inl ⟨Int.le_refl _, hx.2.1⟩)))
      have h2 := lo1 _ ((h y.1).2 (hasL_cons.2 (.inl ⟨Int.le_refl _, hy.2.1⟩)))
      omega
    have e2 : x.2 = y.2 := by
      rcases Int.lt_trichotomy x.2 y.2 with h1 | h1 | h1
      · have := (h (x.2 + 1)).2 (hasL_cons.2 (.inl ⟨by omega, by omega⟩))
        rcases hasL_cons.1 this with h2 | h2
        · omega
        · have := ha.above h2; omega
      · exact h1
      · have := (h (y.2 + 1)).1 (hasL_cons.2 (.inl ⟨by omega, by omega⟩))
        rcases hasL_cons.1 this with h2 | h2
        · omega
        · have := hb.above h2; omega
    have exy : x = y := Prod.ext e1 e2
    subst exy
    have hrest : ∀ z, hasL a z ↔ hasL b z := by
      intro z
      constructor
      · intro hz
        have hlt := ha.above hz
        rcases hasL_cons.1 ((h z).1 (hasL_cons.2 (.inr hz))) with h1 | h1
        · omega
        · exact h1
      · intro hz
        have hlt := hb.above hz
        rcases hasL_cons.1 ((h z).2 (hasL_cons.2 (.inr hz))) with h1 | h1
        · omega
        · exact h1
    rw [canonR ha.tail hb.tail hrest]
theorem hasL_append {a b : List (Int × Int)} {y : Int} : hasL (a ++ b) y ↔ hasL a y ∨ hasL b y := by
  constructor
  · rintro ⟨z, hz, h⟩
    rcases List.mem_append.1 hz with hz | hz
    · exact .inl ⟨z, hz, h⟩
    · exact .inr ⟨z, hz, h⟩
  · rintro (⟨z, hz, h⟩ | ⟨z, hz, h⟩)
    · exact ⟨z, List.mem_append_left _ hz, h⟩
    · exact ⟨z, List.mem_append_right _ hz, h⟩
theorem hasL_one {x : Int × Int} {y : Int} : hasL [x] y ↔ x.1 ≤ y ∧ y ≤ x.2 := by rw [hasL_cons]; simp [not_hasL_nil]
theorem rightP_snoc {l : List (Int × Int)} {x : Int × Int} : RightP (l ++ [x]) ↔ RightP l ∧ okP x ∧ ∀ z ∈ l, z.2 + 1 < x.1 := by
  unfold RightP
  rw [List.pairwise_append]
  constructor
  · rintro ⟨h1, h2, _, h4⟩
    exact ⟨⟨fun y hy => h1 y (List.mem_append_left _ hy), h2⟩, h1 x (by simp), fun z hz => h4 z hz x (by simp)⟩
  · rintro ⟨⟨h1, h2⟩, h3, h4⟩
    refine ⟨fun y hy => ?_, h2, List.pairwise_singleton _ _, fun z hz y hy => by rw [List.mem_singleton.1 hy]; exact h4 z hz⟩
    rcases List.mem_append.1 hy with hy | hy
    · exact h1 y hy
    · rw [List.mem_singleton.1 hy]; exact h3
/-- joining rising runs -/
theorem join_spec : ∀ (d out : List (Int × Int)), RightP out → (∀ x ∈ d, okP x) → d.Pairwise (fun x y => x.1 ≤ y.1) → (∀ b ∈ out, ∀ x ∈ d, b.1 ≤ x.1) →
    RightP (d.foldl joinStep out) ∧ ∀ y, hasL (d.foldl joinStep out) y ↔ hasL out y ∨ hasL d y
  | [], out, ho, _, _, _ => ⟨ho, fun y => by simp [not_hasL_nil]⟩
  | r :: d, out, ho, hd, hs, hb => by
    have hr := hd r (List.mem_cons_self ..)
    have hs' := List.pairwise_cons.1 hs
    have key : RightP (joinStep out r) ∧ (∀ y, hasL (joinStep out r) y ↔ hasL out y ∨ (r.1 ≤ y ∧ y ≤ r.2)) ∧ (∀ b ∈ joinStep out r, b.1 ≤ r.1) := by
      rcases nil_or_snoc out with rfl | ⟨init, b, rfl⟩
      · refine ⟨⟨by simpa [joinStep] using hr, by simp [joinStep]⟩, fun y => ?_, by simp [joinStep]⟩
        have : joinStep [] r = [r] := by simp [joinStep]
        rw [this, hasL_one]; simp [not_hasL_nil]
      · rw [joinStep_snoc]
        obtain ⟨hi, hob, hlt⟩ := rightP_snoc.1 ho
        have hbr := hb b (by simp) r (List.mem_cons_self ..)
        unfold okP at hr hob
        have hbi : ∀ z ∈ init, z.1 ≤ r.1 := fun z hz => hb z (by simp [hz]) r (List.mem_cons_self ..)
        split
        · next hle =>
          refine ⟨rightP_snoc.2 ⟨hi, ⟨hob.1, by dsimp only; split <;> omega, by dsimp only; split <;> omega⟩, hlt⟩, fun y => ?_, fun z hz => ?_⟩
          · rw [hasL_append, hasL_append, hasL_one, hasL_one]
            dsimp only
            constructor
            · rintro (h | ⟨h1, h2⟩)
              · exact .inl (.inl h)
              · split at h2
                · by_cases hy : y ≤ b.2
                  · exact .inl (.inr ⟨h1, hy⟩)
                  · exact .inr ⟨by omega, h2⟩
                · exact .inl (.inr ⟨h1, h2⟩)
            · rintro ((h | ⟨h1, h2⟩) | ⟨h1, h2⟩)
              · exact .inl h
              · exact .inr ⟨h1, by split <;> omega⟩
              · exact .inr ⟨by omega, by split <;> omega⟩
          · rcases List.mem_append.1 hz with hz | hz
            · exact hbi z hz
            · rw [List.mem_singleton.1 hz]; exact hbr
        · next hgt =>
          refine ⟨rightP_snoc.2 ⟨ho, hr, fun z hz => ?_⟩, fun y => by rw [hasL_append, hasL_one], fun z hz => ?_⟩
          · rcases List.mem_append.1 hz with hz | hz
            · have := hlt z hz; omega
            · rw [List.mem_singleton.1 hz]; omega
          · rcases List.mem_append.1 hz with hz | hz
            · rcases List.mem_append.1 hz with hz | hz
              · exact hbi z hz
              · rw [List.mem_singleton.1 hz]; exact hbr
            · rw [List.mem_singleton.1 hz]; exact Int.le_refl _
    obtain ⟨k1, k2, k3⟩ := key
    have ih := join_spec d (joinStep out r) k1 (fun x hx => hd x (List.mem_cons_of_mem _ hx)) hs'.2 (fun b hb2 x hx => Int.le_trans (k3 b hb2) (hs'.1 x hx))
    refine ⟨ih.1, fun y => ?_⟩
    rw [List.foldl_cons, ih.2 y, k2 y, hasL_cons]
    constructor
    · rintro ((h | h) | h)
      · exact .inl h
      · exact .inr (.inl h)
      · exact .inr (.inr h)
    · rintro (h | h | h)
      · exact .inl (.inl h)
      · exact .inl (.inr h)
      · exact .inr h
def nextF (above : Int) (acc : Option Int) (x : Int) : Option Int := if above < x then (match acc with | none => some x | some b => if x < b then some x else acc) else acc
theorem nextF_take {above : Int} {acc : Option Int} {x : Int} (h1 : above < x) (h2 : (!acc.isSome) = true ∨ x < acc.getD 0) : nextF above acc x = some x := by
  cases acc with
  | none => simp [nextF, h1]
  | some b => have : x < b := by simpa using h2
              simp [nextF, h1, this]
theorem nextF_keep {above : Int} {acc : Option Int} {x : Int} (h : ¬ above < x ∨ ((!acc.isSome) = false ∧ ¬ x < acc.getD 0)) : nextF above acc x = acc := by
  rcases h with h | ⟨h1, h2⟩
  · simp [nextF, h]
  · cases acc with
    | none => simp at h1
    | some b => have : ¬ x < b := by simpa using h2
                simp [nextF, this]
theorem next_spec {above : Int} : ∀ (l : List Int) (acc : Option Int), (∀ b, acc = some b → above < b) →
    match l.foldl (nextF above) acc with
    | none => acc = none ∧ ∀ x ∈ l, ¬ above < x
    | some b => above < b ∧ (acc = some b ∨ b ∈ l) ∧ (∀ x ∈ l, above < x → b ≤ x) ∧ (∀ c, acc = some c → b ≤ c)
  | [], acc, h => by
    cases acc with
    | none => exact ⟨rfl, by simp⟩
    | some b => exact ⟨h b rfl, .inl rfl, by simp, fun c hc => by cases hc; exact Int.le_refl _⟩
  | y :: l, acc, h => by
    have key : (∀ b, nextF above acc y = some b → above < b) ∧ (nextF above acc y = none → acc = none ∧ ¬ above < y) ∧ (∀ b, nextF above acc y = some b → (acc = some b ∨ b = y) ∧ (above < y → b ≤ y) ∧ (∀ c, acc = some c → b ≤ c)) := by
      unfold nextF
      by_cases hy : above < y
      · rw [if_pos hy]
        cases acc with
        | none => exact ⟨fun b hb => by cases hb; exact hy, fun hb => (by cases hb), fun b hb => by cases hb; exact ⟨.inr rfl, fun _ => Int.le_refl _, by simp⟩⟩
        | some e =>
          by_cases hlt : y < e
          · simp only [hlt, if_true]
            exact ⟨fun b hb => by cases hb; exact hy, fun hb => (by cases hb), fun b hb => by cases hb; exact ⟨.inr rfl, fun _ => Int.le_refl _, fun c hc => by cases hc; omega⟩⟩
          · simp only [hlt, if_false]
            exact ⟨fun b hb => by cases hb; exact h _ rfl, fun hb => (by cases hb), fun b hb => by cases hb; exact ⟨.inl rfl, fun _ => by omega, fun c hc => by cases hc; exact Int.le_refl _⟩⟩
      · rw [if_neg hy]
        exact ⟨h, fun hb => ⟨hb, hy⟩, fun b hb => ⟨.inl hb, fun h' => absurd h' hy, fun c hc => by rw [hb] at hc; cases hc; exact Int.le_refl _⟩⟩
    have ih := next_spec l (nextF above acc y) key.1
    rw [List.foldl_cons]
    cases hf : l.foldl (nextF above) (nextF above acc y) with
    | none =>
      rw [hf] at ih
      have := key.2.1 ih.1
      exact ⟨this.1, fun x hx => by rcases List.mem_cons.1 hx with rfl | hx; exact this.2; exact ih.2 x hx⟩
    | some d =>
      rw [hf] at ih
      obtain ⟨h1, h2, h3, h4⟩ := ih
      refine ⟨h1, ?_, ?_, ?_⟩
      · rcases h2 with h2 | h2
        · rcases (key.2.2 d h2).1 with h' | h'
          · exact .inl h'
          · exact .inr (by rw [h']; exact List.mem_cons_self ..)
        · exact .inr (List.mem_cons_of_mem _ h2)
      · intro x hx hr
        rcases List.mem_cons.1 hx with rfl | hx
        · cases hl : nextF above acc x with
          | none => exact absurd hr (key.2.1 hl).2
          | some e => exact Int.le_trans (h4 e hl) ((key.2.2 e hl).2.1 hr)
        · exact h3 x hx hr
      · intro x hx
        cases hl : nextF above acc y with
        | none => rw [(key.2.1 hl).1] at hx; cases hx
        | some e => exact Int.le_trans (h4 e hl) ((key.2.2 e hl).2.2 x hx)
/-- one number more, above all -/
theorem snoc_spec {l : List Int} {out : List (Int × Int)} {prev x : Int} (hR : RightP out) (hm : ∀ y, hasL out y ↔ y ∈ l ∧ y ≤ prev) (hx : x ∈ l) (hlt : prev < x) (hmin : ∀ z ∈ l, prev < z → x ≤ z) (hx1 : 1 ≤ x ∧ x ≤ 1099511627776) :
    (∀ init b, out = init ++ [b] → b.2 = x - 1 → RightP (init ++ [(b.1, x)]) ∧ ∀ y, hasL (init ++ [(b.1, x)]) y ↔ y ∈ l ∧ y ≤ x) ∧
    ((∀ init b, out = init ++ [b] → b.2 ≠ x - 1) → RightP (out ++ [(x, x)]) ∧ ∀ y, hasL (out ++ [(x, x)]) y ↔ y ∈ l ∧ y ≤ x) := by
  have hmem : ∀ y, (y ∈ l ∧ y ≤ x) ↔ (hasL out y ∨ y = x) := by
    intro y
    rw [hm y]
    constructor
    · rintro ⟨h1, h2⟩
      by_cases h3 : y ≤ prev
      · exact .inl ⟨h1, h3⟩
      · have := hmin y h1 (by omega)
        exact .inr (by omega)
    · rintro (⟨h1, h2⟩ | rfl)
      · exact ⟨h1, by omega⟩
      · exact ⟨hx, Int.le_refl _⟩
  have hz2 : ∀ z ∈ out, z.2 < x := by
    intro z hz
    have hk := hR.1 z hz
    have := (hm z.2).1 ⟨z, hz, hk.2.1, Int.le_refl _⟩
    omega
  constructor
  · rintro init b rfl hb
    obtain ⟨h1, h2, h3⟩ := rightP_snoc.1 hR
    unfold okP at h2
    refine ⟨rightP_snoc.2 ⟨h1, ⟨h2.1, by dsimp only; omega, by dsimp only; omega⟩, h3⟩, fun y => ?_⟩
    rw [hmem y, hasL_append, hasL_append, hasL_one, hasL_one]
    dsimp only
    constructor
    · rintro (h | ⟨h4, h5⟩)
      · exact .inl (.inl h)
      · by_cases h6 : y ≤ b.2
        · exact .inl (.inr ⟨h4, h6⟩)
        · exact .inr (by omega)
    · rintro ((h | ⟨h4, h5⟩) | rfl)
      · exact .inl h
      · exact .inr ⟨h4, by omega⟩
      · exact .inr ⟨by omega, Int.le_refl _⟩
  · intro hne
    refine ⟨rightP_snoc.2 ⟨hR, ⟨hx1.1, Int.le_refl _, hx1.2⟩, fun z hz => ?_⟩, fun y => ?_⟩
    · have h1 := hz2 z hz
      rcases nil_or_snoc out with rfl | ⟨init, b, rfl⟩
      · cases hz
      · have h2 := hne init b rfl
        have h3 := hz2 b (by simp)
        obtain ⟨_, h5, h6⟩ := rightP_snoc.1 hR
        unfold okP at h5
        rcases List.mem_append.1 hz with hz | hz
        · have := h6 z hz; dsimp only; omega
        · rw [List.mem_singleton.1 hz]; dsimp only; omega
    · rw [hmem y, hasL_append, hasL_one]
      dsimp only
      constructor
      · rintro (h | ⟨h4, h5⟩)
        · exact .inl h
        · exact .inr (by omega)
      · rintro (h | rfl)
        · exact .inl h
        · exact .inr ⟨Int.le_refl _, Int.le_refl _⟩
end Go.Proofs.YtlghgdgpbnlpmaaGreat
/- What is proved: what the functions of package span answer. Conditions: none. -/
namespace Go.Proofs.YtlghgdgpbnlpmaaGreat
open Go.RowKit
set_option linter.unusedVariables false
set_option linter.unusedSimpArgs false
set_option maxRecDepth 100000
set_option maxHeartbeats 8000000
theorem number_a (n : Int) : AFnP Tryz.prog 148 [i64 n] (.bool (decide (1 ≤ n) && decide (n ≤ 1099511627776))) := by
  refine afnp_in ty_ok Tryz.call148 Tryz.func148 rfl rfl (by decide +kernel) ?_
  (try conv=>whnf)<;>repeat'((first|exact sNo|refine sT ?_|refine sF ?_|((first|refine sD ?_ ?_|refine sE ?_ ?_|refine sN ?_ ?_|refine sG ?_ ?_)<;>intro ht<;>(first|(cases ht;done)|skip))|refine wr ?_|refine ix ?_|refine ati ?_|refine row ?_|refine app ?_|refine dr ?_|refine VBs.own ?_|fail)<;>(try conv=>whnf))
  all_goals simp [*]
theorem right_a_s (l : List (Int × Int)) (hn : l.length ≤ 1000000) : AFnP Tryz.prog 152 [lstE runE l] (.bool (rightL l)) := by
  refine afnp_in ty_ok Tryz.call152 Tryz.func152 rfl rfl (by decide +kernel) ?_
  (try conv=>whnf)<;>repeat'((first|exact sNo|refine sT ?_|refine sF ?_|((first|refine sD ?_ ?_|refine sE ?_ ?_|refine sN ?_ ?_|refine sG ?_ ?_)<;>intro ht<;>(first|(cases ht;done)|skip))|refine wr ?_|refine ix ?_|refine ati ?_|refine row ?_|refine app ?_|refine dr ?_|refine VBs.own ?_|fail)<;>(try conv=>whnf))
  refine VLp.mk ⟨[], [], [7], fun k vs h => ∃ i : Nat, vs = [i64 i] ∧ i ≤ l.length ∧ k = l.length - i ∧ h = [] ∧ ∀ j, j < i → goodAt l j = true, l.length, ?_⟩
  conv => whnf
  refine ⟨⟨0, rfl, by omega, by omega, rfl, by omega⟩, ?_⟩
  rintro k vs h ⟨i, rfl, hi, rfl, rfl, hg⟩
  by_cases hin : i < l.length
  · have hgi := goodAt_iff (l := l) (i := i) hin
    have hgi' := goodAt_iff' (l := l) (i := i) hin
    rcases Nat.eq_zero_or_pos i with h0 | h0
    · (try conv=>whnf)<;>repeat'((first|exact sNo|refine sT ?_|refine sF ?_|((first|refine sD ?_ ?_|refine sE ?_ ?_|refine sN ?_ ?_|refine sG ?_ ?_)<;>intro ht<;>(first|(cases ht;done)|skip))|refine wr ?_|refine ix ?_|refine ati ?_|refine row ?_|refine app ?_|refine dr ?_|refine VBs.own ?_|refine cf (number_a _) ?_|refine cg (number_a _) ?_|refine cz (number_a _) ?_|fail)<;>(try conv=>whnf))
      all_goals first
        | (refine congrArg AV.bool (rightL_false (show i < l.length by omega) (hgi'.2 ?_)).symm; (try simp only [Bool.not_false, Bool.not_true, Bool.not_eq_false', Bool.not_eq_true', Bool.and_eq_true, Bool.and_eq_false_iff, Bool.or_eq_true, Bool.or_eq_false_iff, decide_eq_true_eq, decide_eq_false_iff_not, beq_iff_eq, beq_eq_false_iff_ne, ne_eq] at *); omega)
        | (have hok : goodAt l i = true := hgi.2 (by (try simp only [Bool.not_false, Bool.not_true, Bool.not_eq_false', Bool.not_eq_true', Bool.and_eq_true, Bool.and_eq_false_iff, Bool.or_eq_true, Bool.or_eq_false_iff, decide_eq_true_eq, decide_eq_false_iff_not, beq_iff_eq, beq_eq_false_iff_ne, ne_eq] at *); omega)
           exact VRd.mk rfl ⟨l.length - (i + 1), by omega, i + 1, rfl, by omega, rfl, rfl, fun j hj => by rcases Nat.lt_succ_iff_lt_or_eq.1 hj with h | rfl; exact hg j h; exact hok⟩)
    · obtain ⟨i0, hi0⟩ : ∃ j, i = j + 1 := ⟨i - 1, by omega⟩
      have hj : (i : Int) - 1 = (i0 : Int) := by omega
      have hi1 : i - 1 = i0 := by omega
      simp only [hi1] at hgi hgi'
      have hp := (goodAt_iff (l := l) (i := i0) (by omega)).1 (hg _ (by omega))
      (try conv=>whnf)<;>repeat'((first|exact sNo|refine sT ?_|refine sF ?_|((first|refine sD ?_ ?_|refine sE ?_ ?_|refine sN ?_ ?_|refine sG ?_ ?_)<;>intro ht<;>(first|(cases ht;done)|skip))|refine wr ?_|refine ix ?_|refine ati ?_|refine row ?_|refine app ?_|refine dr ?_|refine VBs.own ?_|refine cf (number_a _) ?_|refine cg (number_a _) ?_|refine cz (number_a _) ?_|fail)<;>(try conv=>whnf))
      all_goals first
        | (refine congrArg AV.bool (rightL_false (show i < l.length by omega) (hgi'.2 ?_)).symm; (try simp only [Bool.not_false, Bool.not_true, Bool.not_eq_false', Bool.not_eq_true', Bool.and_eq_true, Bool.and_eq_false_iff, Bool.or_eq_true, Bool.or_eq_false_iff, decide_eq_true_eq, decide_eq_false_iff_not, beq_iff_eq, beq_eq_false_iff_ne, ne_eq] at *); omega)
        | (have hok : goodAt l i = true := hgi.2 (by (try simp only [Bool.not_false, Bool.not_true, Bool.not_eq_false', Bool.not_eq_true', Bool.and_eq_true, Bool.and_eq_false_iff, Bool.or_eq_true, Bool.or_eq_false_iff, decide_eq_true_eq, decide_eq_false_iff_not, beq_iff_eq, beq_eq_false_iff_ne, ne_eq] at *); omega)
           exact VRd.mk rfl ⟨l.length - (i + 1), by omega, i + 1, rfl, by omega, rfl, rfl, fun j hj => by rcases Nat.lt_succ_iff_lt_or_eq.1 hj with h | rfl; exact hg j h; exact hok⟩)
  · (try conv=>whnf)<;>repeat'((first|exact sNo|refine sT ?_|refine sF ?_|((first|refine sD ?_ ?_|refine sE ?_ ?_|refine sN ?_ ?_|refine sG ?_ ?_)<;>intro ht<;>(first|(cases ht;done)|skip))|refine wr ?_|refine ix ?_|refine ati ?_|refine row ?_|refine app ?_|refine dr ?_|refine VBs.own ?_|fail)<;>(try conv=>whnf))
    exact congrArg AV.bool (rightL_true fun j hj => hg j (by omega)).symm
theorem joined_a (l : List (Int × Int)) (hn : l.length ≤ 1000000) (hB : ∀ x ∈ l, x.2 ≤ 1099511627776 ∧ -1099511627776 ≤ x.2) : AFnP Tryz.prog 151 [lstE runE l] (lstE runE (l.foldl joinStep [])) := by
  refine afnp_in ty_ok Tryz.call151 Tryz.func151 rfl rfl (by decide +kernel) ?_
  (try conv=>whnf)<;>repeat'((first|exact sNo|refine sT ?_|refine sF ?_|((first|refine sD ?_ ?_|refine sE ?_ ?_|refine sN ?_ ?_|refine sG ?_ ?_)<;>intro ht<;>(first|(cases ht;done)|skip))|refine wr ?_|refine ix ?_|refine ati ?_|refine row ?_|refine app ?_|refine dr ?_|refine VBs.own ?_|fail)<;>(try conv=>whnf))
  refine VLp.mk ⟨[.slot 3 209 2], [], [3, 9], fun k vs h => ∃ (i : Nat) (out : List (Int × Int)), vs = [.own 0 out.length, i64 i] ∧ h = [.row 0 209 2 (out.map runE)] ∧ i ≤ l.length ∧ k = l.length - i ∧ out = (l.take i).foldl joinStep [], l.length, ?_⟩
  conv => whnf
  refine ⟨⟨0, [], rfl, rfl, by omega, by omega, rfl⟩, ?_⟩
  rintro k vs h ⟨i, out, rfl, rfl, hi, rfl, hout⟩
  by_cases hin : i < l.length
  · have hnext : (l.take (i + 1)).foldl joinStep [] = joinStep out l[i] := by rw [List.take_succ_eq_append_getElem (by omega), List.foldl_append, ← hout]; rfl
    have hob : ∀ x ∈ out, x.2 ≤ 1099511627776 ∧ -1099511627776 ≤ x.2 := by rw [hout]; exact joinStep_bound _ _ (by simp) (fun x hx => hB x (List.mem_of_mem_take hx))
    have hol : out.length ≤ i := by rw [hout]; have := joinStep_len (l.take i) []; simp at this; omega
    clear hout
    rcases nil_or_snoc out with rfl | ⟨init, b, rfl⟩
    · have hz : ([] : List (Int × Int)).length = 0 := rfl
      (try conv=>whnf)<;>repeat'((first|exact sNo|refine sT ?_|refine sF ?_|((first|refine sD ?_ ?_|refine sE ?_ ?_|refine sN ?_ ?_|refine sG ?_ ?_)<;>intro ht<;>(first|(cases ht;done)|skip))|refine wr ?_|refine ix ?_|refine ati ?_|refine row ?_|refine app ?_|refine dr ?_|refine VBs.own ?_|fail)<;>(try conv=>whnf))
      exact VRd.mk rfl ⟨l.length - (i + 1), by omega, i + 1, [l[i]], rfl, rfl, by omega, rfl, by rw [hnext]; simp [joinStep]⟩
    · have hb := hob b (by simp)
      have hlen : (init ++ [b]).length = init.length + 1 := by simp
      have hj : ((init.length + 1 : Nat) : Int) - 1 = (init.length : Int) := by omega
      have hlast : ((init ++ [b]).map runE)[init.length]? = some (runE b) := by simp
      rw [hlen]
      rw [hlen] at hol
      (try conv=>whnf)<;>repeat'((first|exact sNo|refine sT ?_|refine sF ?_|((first|refine sD ?_ ?_|refine sE ?_ ?_|refine sN ?_ ?_|refine sG ?_ ?_)<;>intro ht<;>(first|(cases ht;done)|skip))|refine wr ?_|refine ix ?_|refine ati ?_|refine row ?_|refine app ?_|refine dr ?_|refine VBs.own ?_|fail)<;>(try conv=>whnf))
      · refine VRd.mk rfl ⟨l.length - (i + 1), by omega, i + 1, init ++ [b] ++ [l[i]], ?_, ?_, by omega, rfl, by rw [hnext, joinStep_snoc, if_neg ht]⟩
        · simp
        · simp [runE]
      · refine VRd.mk rfl ⟨l.length - (i + 1), by omega, i + 1, init ++ [(b.1, if l[i].2 > b.2 then l[i].2 else b.2)], ?_, ?_, by omega, rfl, by rw [hnext, joinStep_snoc, if_pos ht]⟩
        · simp
        · simp [runE]
  · (try conv=>whnf)<;>repeat'((first|exact sNo|refine sT ?_|refine sF ?_|((first|refine sD ?_ ?_|refine sE ?_ ?_|refine sN ?_ ?_|refine sG ?_ ?_)<;>intro ht<;>(first|(cases ht;done)|skip))|refine wr ?_|refine ix ?_|refine ati ?_|refine row ?_|refine app ?_|refine dr ?_|refine VBs.own ?_|fail)<;>(try conv=>whnf))
    rw [List.take_of_length_le (by omega)] at hout
    subst hout
    rfl
end Go.Proofs.YtlghgdgpbnlpmaaGreat
/- What is proved: what Has, both, Meet, Minus and Leq of package span answer. Conditions: none. -/
namespace Go.Proofs.YtlghgdgpbnlpmaaGreat
open Go.RowKit
set_option linter.unusedVariables false
set_option linter.unusedSimpArgs false
set_option maxRecDepth 100000
set_option maxHeartbeats 8000000
def inRun (n : Int) (x : Int × Int) : Bool := decide (x.1 ≤ n) && decide (n ≤ x.2)
theorem both_a (a b : List (Int × Int)) (ha : a.length ≤ 1000000) (hb : b.length ≤ 1000000) : AFnP Tryz.prog 153 [lstE runE a, lstE runE b] (.bool (rightL a && rightL b)) := by
  refine afnp_in ty_ok Tryz.call153 Tryz.func153 rfl rfl (by decide +kernel) ?_
  (try conv=>whnf)<;>repeat'((first|exact sNo|refine sT ?_|refine sF ?_|((first|refine sD ?_ ?_|refine sE ?_ ?_|refine sN ?_ ?_|refine sG ?_ ?_)<;>intro ht<;>(first|(cases ht;done)|skip))|refine wr ?_|refine ix ?_|refine ati ?_|refine row ?_|refine app ?_|refine dr ?_|refine VBs.own ?_|refine cf (right_a_s a ha) ?_|refine cg (right_a_s a ha) ?_|refine cz (right_a_s a ha) ?_|refine cf (right_a_s b hb) ?_|refine cg (right_a_s b hb) ?_|refine cz (right_a_s b hb) ?_|fail)<;>(try conv=>whnf))
  all_goals simp [*]
end Go.Proofs.YtlghgdgpbnlpmaaGreat
/- What is proved: what Meet, Minus and Leq of package span answer. Conditions: none. -/
namespace Go.Proofs.YtlghgdgpbnlpmaaGreat
open Go.RowKit
set_option linter.unusedVariables false
set_option linter.unusedSimpArgs false
set_option maxRecDepth 100000
set_option maxHeartbeats 8000000
def mx (x y : Int) : Int := if y > x then y else x
def mstep (st : List (Int × Int) × (Int × Int)) (x : Int × Int) : List (Int × Int) × (Int × Int) :=
  if x.2 < st.2.1 ∨ st.2.2 < x.1 then st else (if st.2.1 < x.1 then st.1 ++ [(st.2.1, x.1 - 1)] else st.1, (x.2 + 1, st.2.2))
def mfin (st : List (Int × Int) × (Int × Int)) : List (Int × Int) := if st.2.1 ≤ st.2.2 then st.1 ++ [st.2] else st.1
def mone (b : List (Int × Int)) (out : List (Int × Int)) (r : Int × Int) : List (Int × Int) := mfin (b.foldl mstep (out, r))
def minusL (a b : List (Int × Int)) : List (Int × Int) := a.foldl (mone b) []
theorem foldl_take {α β : Type} {f : β → α → β} {l : List α} {i : Nat} {z : β} (h : i < l.length) : (l.take (i + 1)).foldl f z = f ((l.take i).foldl f z) l[i] := by rw [List.take_succ_eq_append_getElem h, List.foldl_append]; rfl
theorem mul_lt {i n m : Nat} (h : i < n) : i * m + m ≤ n * m := by have := Nat.mul_le_mul_right m h; rwa [Nat.succ_mul] at this
theorem minus_a (a b : List (Int × Int)) (ha : a.length ≤ 40000) (hb : b.length ≤ 40000) : AFnP Tryz.prog 135 [lstE runE a, lstE runE b] (lstE runE (if (rightL a && rightL b) = true then minusL a b else [])) := by
  refine afnp_in ty_ok Tryz.call135 Tryz.func135 rfl rfl (by decide +kernel) ?_
  cases hab : (rightL a && rightL b)
  · (try conv=>whnf)<;>repeat'((first|exact sNo|refine sT ?_|refine sF ?_|((first|refine sD ?_ ?_|refine sE ?_ ?_|refine sN ?_ ?_|refine sG ?_ ?_)<;>intro ht<;>(first|(cases ht;done)|skip))|refine wr ?_|refine ix ?_|refine ati ?_|refine row ?_|refine app ?_|refine dr ?_|refine VBs.own ?_|refine cf (both_a a b (by omega) (by omega)) ?_|refine cg (both_a a b (by omega) (by omega)) ?_|refine cz (both_a a b (by omega) (by omega)) ?_|fail)<;>(try conv=>whnf))
    simp
  · have hbr : rightL b = true := by simp only [Bool.and_eq_true] at hab; exact hab.2
    have hbb := (rightL_iff.1 hbr).1
    have hmul : a.length * (b.length + 1) ≤ 2000000000 := Nat.le_trans (Nat.mul_le_mul ha (Nat.succ_le_succ hb)) (by decide)
    rw [if_pos rfl]
    (try conv=>whnf)<;>repeat'((first|exact sNo|refine sT ?_|refine sF ?_|((first|refine sD ?_ ?_|refine sE ?_ ?_|refine sN ?_ ?_|refine sG ?_ ?_)<;>intro ht<;>(first|(cases ht;done)|skip))|refine wr ?_|refine ix ?_|refine ati ?_|refine row ?_|refine app ?_|refine dr ?_|refine VBs.own ?_|refine cf (both_a a b (by omega) (by omega)) ?_|refine cg (both_a a b (by omega) (by omega)) ?_|refine cz (both_a a b (by omega) (by omega)) ?_|fail)<;>(try conv=>whnf))
    refine VLp.mk ⟨[.slot 5 209 2], [], [5, 16], fun m vs h => ∃ (i : Nat) (out : List (Int × Int)), vs = [.own 0 out.length, i64 i] ∧ h = [.row 0 209 2 (out.map runE)] ∧ i ≤ a.length ∧ m = a.length - i ∧ out.length ≤ i * (b.length + 1) ∧ out = (a.take i).foldl (mone b) [], a.length, ?_⟩
    conv => whnf
    refine ⟨⟨0, [], rfl, rfl, by omega, by omega, by simp, by simp⟩, ?_⟩
    rintro m vs h ⟨i, out, rfl, rfl, hi, rfl, hlen, hout⟩
    by_cases hia : i < a.length
    · have hnext := foldl_take (f := mone b) (z := []) hia
      rw [← hout] at hnext
      have hmi := mul_lt (m := b.length + 1) hia
      clear hout
      (try conv=>whnf)<;>repeat'((first|exact sNo|refine sT ?_|refine sF ?_|((first|refine sD ?_ ?_|refine sE ?_ ?_|refine sN ?_ ?_|refine sG ?_ ?_)<;>intro ht<;>(first|(cases ht;done)|skip))|refine wr ?_|refine ix ?_|refine ati ?_|refine row ?_|refine app ?_|refine dr ?_|refine VBs.own ?_|fail)<;>(try conv=>whnf))
      refine VLp.mk ⟨[], [7], [5, 22], fun m vs h => ∃ (j : Nat) (o2 : List (Int × Int)) (r : Int × Int), vs = [.own 1 o2.length, i64 j] ∧ h = [.blk 0 [i64 r.1, i64 r.2] 209, .row 1 209 2 (o2.map runE)] ∧ j ≤ b.length ∧ m = b.length - j ∧ o2.length ≤ out.length + j ∧ (o2, r) = (b.take j).foldl mstep (out, a[i]), b.length, ?_⟩
      conv => whnf
      refine ⟨⟨0, out, a[i], rfl, rfl, by omega, by omega, by omega, rfl⟩, ?_⟩
      rintro m vs h ⟨j, o2, r, rfl, rfl, hj, rfl, hlen2, ho2⟩
      by_cases hjb : j < b.length
      · have hn2 := foldl_take (f := mstep) (z := (out, a[i])) hjb
        rw [← ho2] at hn2
        have hbj := hbb _ (List.getElem_mem hjb)
        unfold okP at hbj
        clear ho2
        simp only [mstep] at hn2
        (try conv=>whnf)<;>repeat'((first|exact sNo|refine sT ?_|refine sF ?_|((first|refine sD ?_ ?_|refine sE ?_ ?_|refine sN ?_ ?_|refine sG ?_ ?_)<;>intro ht<;>(first|(cases ht;done)|skip))|refine wr ?_|refine ix ?_|refine ati ?_|refine row ?_|refine app ?_|refine dr ?_|refine VBs.own ?_|fail)<;>(try conv=>whnf))
        all_goals first
          | exact VRd.mk rfl ⟨b.length - (j + 1), by omega, j + 1, o2, r, rfl, rfl, by omega, rfl, by omega, by rw [hn2, if_pos (by omega)]⟩
          | exact VRd.mk rfl ⟨b.length - (j + 1), by omega, j + 1, o2, (b[j].2 + 1, r.2), rfl, rfl, by omega, rfl, by omega, by rw [hn2, if_neg (by omega), if_neg (by omega)]⟩
          | exact VRd.mk rfl ⟨b.length - (j + 1), by omega, j + 1, o2 ++ [(r.1, b[j].1 - 1)], (b[j].2 + 1, r.2), by simp, by simp [runE], by omega, rfl, by simp; omega, by rw [hn2, if_neg (by omega), if_pos (by omega)]⟩
      · obtain rfl : j = b.length := by omega
        rw [List.take_length] at ho2
        have hm : mone b out a[i] = mfin (o2, r) := by rw [ho2]; rfl
        simp only [mfin] at hm
        have hmi2 : i * (b.length + 1) + (b.length + 1) = (i + 1) * (b.length + 1) := (Nat.succ_mul ..).symm
        (try conv=>whnf)<;>repeat'((first|exact sNo|refine sT ?_|refine sF ?_|((first|refine sD ?_ ?_|refine sE ?_ ?_|refine sN ?_ ?_|refine sG ?_ ?_)<;>intro ht<;>(first|(cases ht;done)|skip))|refine wr ?_|refine ix ?_|refine ati ?_|refine row ?_|refine app ?_|refine dr ?_|refine VBs.own ?_|fail)<;>(try conv=>whnf))
        all_goals first
          | exact VRd.mk rfl ⟨a.length - (i + 1), by omega, i + 1, o2, rfl, rfl, by omega, rfl, by omega, by rw [hnext, hm, if_neg (by omega)]⟩
          | exact VRd.mk rfl ⟨a.length - (i + 1), by omega, i + 1, o2 ++ [r], by simp, by simp [runE], by omega, rfl, by simp; omega, by rw [hnext, hm, if_pos (by omega)]⟩
    · (try conv=>whnf)<;>repeat'((first|exact sNo|refine sT ?_|refine sF ?_|((first|refine sD ?_ ?_|refine sE ?_ ?_|refine sN ?_ ?_|refine sG ?_ ?_)<;>intro ht<;>(first|(cases ht;done)|skip))|refine wr ?_|refine ix ?_|refine ati ?_|refine row ?_|refine app ?_|refine dr ?_|refine VBs.own ?_|fail)<;>(try conv=>whnf))
      rw [List.take_of_length_le (by omega)] at hout
      rw [hout]; rfl
end Go.Proofs.YtlghgdgpbnlpmaaGreat
