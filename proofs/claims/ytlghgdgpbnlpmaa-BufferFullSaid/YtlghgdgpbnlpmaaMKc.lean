/- What is proved: the plain law of what is met and what is left. Conditions: none. -/
import Derived.Test.YtlghgdgpbnlpmaaMTb
import Derived.Test.YtlghgdgpbnlpmaaMTa
import Derived.Test.YtlghgdgpbnlpmaaMKb
namespace Go.Proofs.Ytlghgdgpbnlpmaa
set_option linter.unusedVariables false
set_option linter.unusedSimpArgs false
theorem rightP_nil : RightP [] := ⟨by simp, List.Pairwise.nil⟩
theorem rightP_cons {x : Int × Int} {l : List (Int × Int)} : RightP (x :: l) ↔ okP x ∧ RightP l ∧ ∀ z ∈ l, x.2 + 1 < z.1 := by
  unfold RightP
  rw [List.pairwise_cons]
  constructor
  · rintro ⟨h1, h2, h3⟩
    exact ⟨h1 x (by simp), ⟨fun y hy => h1 y (by simp [hy]), h3⟩, h2⟩
  · rintro ⟨h1, ⟨h2, h3⟩, h4⟩
    exact ⟨fun y hy => by rcases List.mem_cons.1 hy with rfl | h; exact h1; exact h2 y h, h4, h3⟩
theorem mone_spec : ∀ (b out : List (Int × Int)) (r : Int × Int), RightP b → RightP out → 1 ≤ r.1 → r.2 ≤ 1099511627776 → (∀ z ∈ out, z.2 + 1 < r.1) →
    RightP (mone b out r) ∧ (∀ y, hasL (mone b out r) y ↔ hasL out y ∨ (r.1 ≤ y ∧ y ≤ r.2 ∧ ¬ hasL b y)) ∧ (∀ z ∈ mone b out r, z ∈ out ∨ z.2 ≤ r.2) ∧ (mone b out r).length ≤ out.length + b.length + 1
  | [], out, r, _, ho, h1, h2, h3 => by
    have hm : mone [] out r = if r.1 ≤ r.2 then out ++ [r] else out := rfl
    rw [hm]
    by_cases hle : r.1 ≤ r.2
    · rw [if_pos hle]
      refine ⟨rightP_snoc.2 ⟨ho, ⟨h1, hle, h2⟩, h3⟩, fun y => ?_, fun z hz => ?_, by simp⟩
      · rw [hasL_append, hasL_one]
        constructor
        · rintro (h | h)
          · exact .inl h
          · exact .inr ⟨h.1, h.2, not_hasL_nil⟩
        · rintro (h | h)
          · exact .inl h
          · exact .inr ⟨h.1, h.2.1⟩
      · rcases List.mem_append.1 hz with h | h
        · exact .inl h
        · rw [List.mem_singleton.1 h]; exact .inr (Int.le_refl _)
    · rw [if_neg hle]
      exact ⟨ho, fun y => ⟨fun h => .inl h, fun h => by rcases h with h | h; exact h; omega⟩, fun z hz => .inl hz, by simp⟩
  | x :: b, out, r, hb, ho, h1, h2, h3 => by
    have hx := hb.1 x (List.mem_cons_self ..)
    unfold okP at hx
    have hst : mone (x :: b) out r = mone b (mstep (out, r) x).1 (mstep (out, r) x).2 := rfl
    rw [hst]
    simp only [mstep]
    by_cases hc : x.2 < r.1 ∨ r.2 < x.1
    · rw [if_pos hc]
      obtain ⟨i1, i2, i3, i4⟩ := mone_spec b out r hb.tail ho h1 h2 h3
      refine ⟨i1, fun y => (i2 y).trans ?_, i3, by simp; omega⟩
      rw [hasL_cons]
      constructor
      · rintro (h | ⟨k1, k2, k3⟩)
        · exact .inl h
        · exact .inr ⟨k1, k2, fun k => by rcases k with k | k; omega; exact k3 k⟩
      · rintro (h | ⟨k1, k2, k3⟩)
        · exact .inl h
        · exact .inr ⟨k1, k2, fun k => k3 (.inr k)⟩
    · rw [if_neg hc]
      dsimp only
      by_cases hl : r.1 < x.1
      · rw [if_pos hl]
        obtain ⟨i1, i2, i3, i4⟩ := mone_spec b (out ++ [(r.1, x.1 - 1)]) (x.2 + 1, r.2) hb.tail (rightP_snoc.2 ⟨ho, ⟨h1, by dsimp only; omega, by dsimp only; omega⟩, h3⟩) (by dsimp only; omega) h2 (fun z hz => by
          rcases List.mem_append.1 hz with h | h
          · have := h3 z h; dsimp only; omega
          · rw [List.mem_singleton.1 h]; dsimp only; omega)
        refine ⟨i1, fun y => (i2 y).trans ?_, fun z hz => ?_, by simp at i4 ⊢; omega⟩
        · rw [hasL_append, hasL_one, hasL_cons]
          dsimp only
          constructor
          · rintro ((h | h) | ⟨k1, k2, k3⟩)
            · exact .inl h
            · refine .inr ⟨h.1, by omega, fun k => ?_⟩
              rcases k with k | k
              · omega
              · have := hb.above k; omega
            · exact .inr ⟨by omega, k2, fun k => by rcases k with k | k; omega; exact k3 k⟩
          · rintro (h | ⟨k1, k2, k3⟩)
            · exact .inl (.inl h)
            · by_cases k4 : y < x.1
              · exact .inl (.inr ⟨k1, by omega⟩)
              · refine .inr ⟨?_, k2, fun k => k3 (.inr k)⟩
                by_cases k5 : y ≤ x.2
                · exact absurd (.inl ⟨by omega, k5⟩) k3
                · omega
        · rcases i3 z hz with h | h
          · rcases List.mem_append.1 h with h | h
            · exact .inl h
            · rw [List.mem_singleton.1 h]; exact .inr (by dsimp only; omega)
          · exact .inr h
      · rw [if_neg hl]
        obtain ⟨i1, i2, i3, i4⟩ := mone_spec b out (x.2 + 1, r.2) hb.tail ho (by dsimp only; omega) h2 (fun z hz => by have := h3 z hz; dsimp only; omega)
        refine ⟨i1, fun y => (i2 y).trans ?_, i3, by simp; omega⟩
        rw [hasL_cons]
        dsimp only
        constructor
        · rintro (h | ⟨k1, k2, k3⟩)
          · exact .inl h
          · exact .inr ⟨by omega, k2, fun k => by rcases k with k | k; omega; exact k3 k⟩
        · rintro (h | ⟨k1, k2, k3⟩)
          · exact .inl h
          · refine .inr ⟨?_, k2, fun k => k3 (.inr k)⟩
            by_cases k5 : y ≤ x.2
            · exact absurd (.inl ⟨by omega, k5⟩) k3
            · omega
theorem minus_go {b : List (Int × Int)} (hb : RightP b) : ∀ (a out : List (Int × Int)), RightP a → RightP out → (∀ z ∈ out, ∀ r ∈ a, z.2 + 1 < r.1) →
    RightP (a.foldl (mone b) out) ∧ (∀ y, hasL (a.foldl (mone b) out) y ↔ hasL out y ∨ (hasL a y ∧ ¬ hasL b y)) ∧ (a.foldl (mone b) out).length ≤ out.length + a.length * (b.length + 1)
  | [], out, _, ho, _ => ⟨ho, fun y => ⟨fun h => .inl h, fun h => by rcases h with h | h; exact h; exact absurd h.1 not_hasL_nil⟩, by simp⟩
  | r :: a, out, ha, ho, h => by
    have hr := ha.1 r (List.mem_cons_self ..)
    unfold okP at hr
    obtain ⟨i1, i2, i3, i4⟩ := mone_spec b out r hb ho hr.1 hr.2.2 (fun z hz => h z hz r (List.mem_cons_self ..))
    have hra := (rightP_cons.1 ha).2.2
    obtain ⟨j1, j2, j3⟩ := minus_go hb a (mone b out r) ha.tail i1 (fun z hz q hq => by
      rcases i3 z hz with k | k
      · exact h z k q (List.mem_cons_of_mem _ hq)
      · have := hra q hq; omega)
    refine ⟨j1, fun y => ?_, ?_⟩
    · rw [List.foldl_cons, j2 y, i2 y, hasL_cons]
      constructor
      · rintro ((k | k) | k)
        · exact .inl k
        · exact .inr ⟨.inl ⟨k.1, k.2.1⟩, k.2.2⟩
        · exact .inr ⟨.inr k.1, k.2⟩
      · rintro (k | ⟨k | k, k2⟩)
        · exact .inl (.inl k)
        · exact .inl (.inr ⟨k.1, k.2, k2⟩)
        · exact .inr ⟨k, k2⟩
    · rw [List.foldl_cons, List.length_cons, Nat.succ_mul]
      omega
theorem minus_spec {a b : List (Int × Int)} (ha : RightP a) (hb : RightP b) : RightP (minusL a b) ∧ (∀ y, hasL (minusL a b) y ↔ hasL a y ∧ ¬ hasL b y) ∧ (minusL a b).length ≤ a.length * (b.length + 1) := by
  obtain ⟨h1, h2, h3⟩ := minus_go hb a [] ha rightP_nil (by simp)
  refine ⟨h1, fun y => (h2 y).trans ⟨fun h => by rcases h with h | h; exact absurd h not_hasL_nil; exact h, fun h => .inr h⟩, by simpa [minusL] using h3⟩
end Go.Proofs.Ytlghgdgpbnlpmaa
/- What is proved: chapter 06's law: plain sets. Conditions: none. -/
namespace Go.Proofs.Ytlghgdgpbnlpmaa
open Go.RowKit
set_option linter.unusedVariables false
set_option linter.unusedSimpArgs false
def srt (l : List (Int × Int)) : List (Int × Int) := l.mergeSort fun x y => decide (x.1 ≤ y.1)
theorem srt_perm (l : List (Int × Int)) : (srt l).Perm l := List.mergeSort_perm _ _
theorem srt_pw (l : List (Int × Int)) : (srt l).Pairwise (fun x y => x.1 ≤ y.1) := by
  have := List.pairwise_mergeSort (le := fun (x y : Int × Int) => decide (x.1 ≤ y.1)) (fun a b c h1 h2 => by simp only [decide_eq_true_eq] at *; omega) (fun a b => by simp only [Bool.or_eq_true, decide_eq_true_eq]; omega) l
  exact this.imp fun h => by simpa using h
def ofL (l : List Int) : List (Int × Int) := (srt (l.map one)).foldl joinStep []
theorem ofL_is {l : List Int} (hok : l.all okNum = true) : IsOf l (ofL l) := of_join (srt_perm _) (srt_pw _) (List.all_eq_true.1 hok)
theorem isOf_eq {l : List Int} {x y : List (Int × Int)} (h : IsOf l x) (h2 : IsOf l y) : x = y := canonR h.1 h2.1 fun v => by rw [h.2 v, h2.2 v]
theorem minus_p {a b : List (Int × Int)} (ha : rightL a = true) (hb : rightL b = true) (hal : a.length ≤ 40000) (hbl : b.length ≤ 40000) : AFnP Try.prog 66 [lstE runE a, lstE runE b] (lstE runE (minusL a b)) := by
  have := minus_a a b (by omega) (by omega)
  rwa [ha, hb, Bool.and_self, if_pos rfl] at this
theorem of_p {l : List Int} (hok : l.all okNum = true) (hn : l.length ≤ 1000000) : AFnP Try.prog 62 [lstE intE l] (.tup [lstE runE (ofL l), i64 0]) :=
  ((of_a l hn).mono fun r h => by
    rcases h.ex with ⟨_, out, h1, _, rfl⟩ | ⟨h1, _⟩
    · rw [isOf_eq h1 (ofL_is hok)]
    · rw [hok] at h1; cases h1).toP
theorem ofL_len {l : List Int} : (ofL l).length ≤ l.length := by
  have := joinStep_len (srt (l.map one)) []
  rw [(srt_perm _).length_eq] at this
  simpa [ofL] using this
/-! how many numbers there are -/
end Go.Proofs.Ytlghgdgpbnlpmaa
