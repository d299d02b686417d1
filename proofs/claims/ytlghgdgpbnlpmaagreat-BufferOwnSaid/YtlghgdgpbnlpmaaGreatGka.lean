/- What is proved: the first bundle of a center's flag is right; plain laws of bundles. Conditions: none. -/
import Derived.Test.YtlghgdgpbnlpmaaGreatGh
import Derived.Test.YtlghgdgpbnlpmaaGreatGd
namespace Go.Proofs.YtlghgdgpbnlpmaaGreat
open Go.RowKit
set_option linter.unusedVariables false
set_option linter.unusedSimpArgs false
set_option maxRecDepth 100000
set_option maxHeartbeats 16000000
theorem ofC_has {l : List (Int × Int)} (h : l.all okDot = true) {d y : Int} : hasP (ofC l) d y ↔ (d, y) ∈ l := by
  unfold hasP ofC
  have hm : ∀ {d y : Int}, y ∈ nums l d ↔ (d, y) ∈ l := fun {d y} => by
    unfold nums
    simp only [List.mem_map, List.mem_filter, decide_eq_true_eq]
    constructor
    · rintro ⟨x, ⟨h1, rfl⟩, rfl⟩; exact h1
    · intro h1; exact ⟨(d, y), ⟨h1, rfl⟩, rfl⟩
  constructor
  · rintro ⟨h0, h4, k⟩
    rw [part_whole _ h0 h4, (ofL_is (nums_ok h d)).2 y] at k
    exact hm.1 k
  · intro k
    have := okDot_iff.1 (List.all_eq_true.1 h _ k)
    refine ⟨this.1.1, this.1.2, ?_⟩
    rw [part_whole _ this.1.1 this.1.2, (ofL_is (nums_ok h d)).2 y]
    exact hm.2 k
theorem rightB_of {b : Bun} (hN : namesB b = true) (hT : rightT 5 b.t = true) (hE : b.t.es.length = 0) (hC : rightC b.c = true) (h1 : ∀ x ∈ allT b.t, x.1 = b.dc ∧ b.af < x.2 ∧ x.2 ≤ b.la)
    (h2 : ∀ y, b.af < y → y ≤ b.la → hasP b.c b.dc y) (h3 : ∀ d y, hasP b.c d y → y ≤ (if d = b.dc then b.la else b.dp d)) : rightB b = true := by
  have n1 := namesB_iff.1 hN
  have hc := rightC_iff.1 hC
  have ho := ownC_right hN
  have hd := dots_right hT
  have q1 : leqC (ofC (allT b.t)) (ownC b) = true := (leqC_iff hd ho).2 fun d y k => by
    obtain ⟨k1, k2, k3⟩ := h1 _ ((ofC_has (all_ok 5 b.t hT)).1 k)
    exact (ownC_has hN).2 ⟨k1, k2, k3⟩
  have q2 : leqC (ownC b) b.c = true := (leqC_iff ho hc).2 fun d y k => by
    obtain ⟨rfl, k2, k3⟩ := (ownC_has hN).1 k
    exact h2 y k2 k3
  have q3 : leqC b.c (mayC b) = true := (leqC_iff hc (fullC_right (mayV_set hN (by omega) (by omega)))).2 fun d y k => by
    have k2 := h3 d y k
    obtain ⟨a1, a2, z, hz, a3, a4⟩ := k
    have := (hc.2 d a1 a2).1 z hz
    unfold okP at this
    exact full_has.2 ⟨⟨a1, a2⟩, by omega, by unfold setV; exact k2⟩
  have q4 : leqC (ofC (allT b.t)) b.c = true := (leqC_iff hd hc).2 fun d y k => (leqC_iff ho hc).1 q2 d y ((leqC_iff hd ho).1 q1 d y k)
  unfold rightB causR
  rw [hN, hT, hC, q4, q1, q2, q3, decide_eq_true hE]
  rfl
def firstB : Bun := ⟨1, 0, 1, fun _ => 0, .mk [] [(str1 102, .mk [((1, 1), ⟨#[]⟩, 0)] [])], [(1, 1, 1)]⟩
theorem firstB_Sm : SmB firstB := ⟨by decide, by decide, by decide⟩
theorem one_has {d a c y : Int} {e : Int} : hasP [(d, a, c)] e y ↔ (0 ≤ e ∧ e < 4) ∧ e = d ∧ a ≤ y ∧ y ≤ c := by
  unfold hasP part
  by_cases h : d = e
  · subst h
    simp only [List.filter_cons, decide_true, if_true, List.filter_nil, List.map_cons, List.map_nil, hasL_one]
    constructor
    · rintro ⟨h0, h4, k⟩; exact ⟨⟨h0, h4⟩, trivial, k⟩
    · rintro ⟨⟨h0, h4⟩, _, k⟩; exact ⟨h0, h4, k⟩
  · simp only [List.filter_cons, h, decide_false, List.filter_nil, List.map_nil]
    constructor
    · rintro ⟨_, _, z, hz, _⟩; simp at hz
    · rintro ⟨_, k, _⟩; exact absurd k.symm h
theorem one_right {d a c : Int} (h0 : 0 ≤ d) (h4 : d < 4) (h1 : 1 ≤ a) (h2 : a ≤ c) (h3 : c ≤ 1099511627776) : rightC [(d, a, c)] = true := by
  refine rightC_iff.2 ⟨⟨fun x hx => ?_, List.pairwise_singleton _ _⟩, fun e _ _ => ?_⟩
  · rw [List.mem_singleton] at hx
    rw [hx]
    exact ⟨h0, h4⟩
  · unfold part
    by_cases hd : d = e
    · simp only [List.filter_cons, hd, decide_true, if_true, List.filter_nil, List.map_cons, List.map_nil]
      refine ⟨fun x hx => ?_, List.pairwise_singleton _ _⟩
      rw [List.mem_singleton] at hx
      subst hx
      unfold okP
      dsimp only
      omega
    · simp only [List.filter_cons, hd, decide_false, List.filter_nil, List.map_nil]
      exact rightP_nil
theorem mayV_zero : mayV (fun _ => 0) = true := by decide
theorem firstB_right : rightB firstB = true := by
  refine rightB_of (namesB_iff.2 ⟨by decide, mayV_zero⟩) (by decide) rfl (one_right (by decide) (by decide) (by decide) (by decide) (by decide)) (fun x hx => ?_) (fun y h1 h2 => ?_) (fun d y h => ?_)
  · have e : allT firstB.t = [(1, 1)] := rfl
    rw [e, List.mem_singleton] at hx
    subst hx
    decide
  · exact one_has.2 ⟨by decide, rfl, h1, h2⟩
  · obtain ⟨_, rfl, k1, k2⟩ := one_has.1 h
    show y ≤ if (1 : Int) = 1 then 1 else 0
    simpa using k2
theorem known_iff {b : Bun} (h : rightB b = true) {v : Int → Int} : knownB b v = true ↔ b.la ≤ v b.dc := by unfold knownB; rw [h, Bool.true_and, decide_eq_true_eq]
end Go.Proofs.YtlghgdgpbnlpmaaGreat
