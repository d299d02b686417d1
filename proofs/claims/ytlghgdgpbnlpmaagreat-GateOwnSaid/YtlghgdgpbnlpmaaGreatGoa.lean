/- What is proved: plain laws of gates to which bundles are added. Conditions: none. -/
import Derived.Test.YtlghgdgpbnlpmaaGreatGka
import Derived.Test.YtlghgdgpbnlpmaaGreatGd
namespace Go.Proofs.YtlghgdgpbnlpmaaGreat
open Go.RowKit
set_option linter.unusedVariables false
set_option linter.unusedSimpArgs false
set_option maxRecDepth 100000
set_option maxHeartbeats 16000000
def addAll (l : List Bun) : List Bun := l.foldl (fun g b => (addG g b).1) []
theorem addAll_snoc (l : List Bun) (b : Bun) : addAll (l ++ [b]) = (addG (addAll l) b).1 := by unfold addAll; rw [List.foldl_append]; rfl
theorem mem_ins {b x : Bun} {l : List Bun} : x ∈ insG b l ↔ x = b ∨ x ∈ l := by
  unfold insG
  rw [List.mem_append, List.mem_cons]
  constructor
  · rintro (h | h | h)
    · exact .inr (List.mem_of_mem_take h)
    · exact .inl h
    · exact .inr (List.mem_of_mem_drop h)
  · rintro (h | h)
    · exact .inr (.inl h)
    · rw [← List.take_append_drop (posG b l) l, List.mem_append] at h
      rcases h with h | h
      · exact .inl h
      · exact .inr (.inr h)
theorem GI.eq {a b : List Bun} (ha : GI a) (hb : GI b) (h : ∀ x, x ∈ a ↔ x ∈ b) : a = b := by
  have hm : ∀ {l : List Bun} {k : Int} {x : Bun}, (k, x) ∈ gm l ↔ x ∈ l ∧ keyB x = k := fun {l k x} => by
    unfold gm
    rw [List.mem_map]
    constructor
    · rintro ⟨y, hy, e⟩; cases e; exact ⟨hy, rfl⟩
    · rintro ⟨hx, rfl⟩; exact ⟨x, hx, rfl⟩
  have e : gm a = gm b := map_ext koI ha.srt hb.srt fun k => by
    have key : ∀ x, getM ltI k (gm a) = some x ↔ getM ltI k (gm b) = some x := fun x => by
      rw [get_mem koI ha.srt, get_mem koI hb.srt, hm, hm, h]
    cases hx : getM ltI k (gm a) with
    | some x => exact ((key x).1 hx).symm
    | none =>
      cases hy : getM ltI k (gm b) with
      | none => rfl
      | some y => rw [(key y).2 hy] at hx; cases hx
  have e2 := congrArg (List.map Prod.snd) e
  unfold gm at e2
  rw [List.map_map, List.map_map] at e2
  simpa [Function.comp_def] using e2
/-- bundles that may all wait -/
structure Apart (l : List Bun) : Prop where
  ok : ∀ b ∈ l, rightB b = true ∧ SmB b
  nd : (l.map keyB).Nodup
theorem Apart.step {l : List Bun} {b : Bun} (h : Apart (l ++ [b])) : Apart l ∧ rightB b = true ∧ SmB b ∧ ∀ x ∈ l, keyB x ≠ keyB b := by
  have h1 := h.ok b (by simp)
  have h2 := h.nd
  rw [List.map_append, List.nodup_append] at h2
  exact ⟨⟨fun x hx => h.ok x (List.mem_append_left _ hx), h2.1⟩, h1.1, h1.2, fun x hx => h2.2.2 _ (List.mem_map_of_mem hx) _ (by simp)⟩
theorem addAll_spec : ∀ (n : Nat) (l : List Bun), l.length = n → n ≤ 64 → Apart l → GI (addAll l) ∧ (∀ x, x ∈ addAll l ↔ x ∈ l) ∧ (addAll l).length = l.length
  | 0, l, hn, _, _ => by
    obtain rfl := List.eq_nil_of_length_eq_zero hn
    exact ⟨GI.nil, fun x => Iff.rfl, rfl⟩
  | n + 1, l, hn, h64, hA => by
    rcases nil_or_snoc l with rfl | ⟨m, b, rfl⟩
    · cases hn
    · rw [List.length_append, List.length_singleton] at hn
      obtain ⟨h1, h2, h3, h4⟩ := hA.step
      obtain ⟨g1, g2, g3⟩ := addAll_spec n m (by omega) (by omega) h1
      have hf : fndG b (addAll m) = false := by
        cases hf : fndG b (addAll m)
        · rfl
        · obtain ⟨k1, k2⟩ := fndG_iff.1 hf
          exact absurd k2 (h4 _ ((g2 _).1 (List.getElem_mem k1)))
      have e : addAll (m ++ [b]) = insG b (addAll m) := by rw [addAll_snoc, addG_in h2 hf (by omega)]
      rw [e]
      refine ⟨g1.ins h2 h3 hf, fun x => ?_, by rw [insG_len, g3]; simp⟩
      rw [mem_ins, g2]
      simp only [List.mem_append, List.mem_singleton]
      exact Or.comm
theorem add_step {m : List Bun} {b : Bun} (h64 : (m ++ [b]).length ≤ 64) (hA : Apart (m ++ [b])) : addG (addAll m) b = (addAll (m ++ [b]), true, 0) := by
  rw [List.length_append, List.length_singleton] at h64
  obtain ⟨h1, h2, h3, h4⟩ := hA.step
  obtain ⟨g1, g2, g3⟩ := addAll_spec m.length m rfl (by omega) h1
  have hf : fndG b (addAll m) = false := by
    cases hf : fndG b (addAll m)
    · rfl
    · obtain ⟨k1, k2⟩ := fndG_iff.1 hf
      exact absurd k2 (h4 _ ((g2 _).1 (List.getElem_mem k1)))
  rw [addAll_snoc, addG_in h2 hf (by omega)]
theorem Apart.take {l : List Bun} (h : Apart l) (i : Nat) : Apart (l.take i) := ⟨fun b hb => h.ok b (List.mem_of_mem_take hb), h.nd.sublist ((List.take_sublist i l).map _)⟩
theorem Apart.rev {l : List Bun} (h : Apart l) : Apart l.reverse := ⟨fun b hb => h.ok b (List.mem_reverse.1 hb), by rw [List.map_reverse]; exact List.pairwise_reverse.2 (h.nd.imp Ne.symm)⟩
theorem take_step {l : List Bun} (h64 : l.length ≤ 64) (hA : Apart l) {i : Nat} (hi : i < l.length) : addG (addAll (l.take i)) l[i] = (addAll (l.take (i + 1)), true, 0) := by
  have e : l.take (i + 1) = l.take i ++ [l[i]] := (take_snoc hi).symm
  have := hA.take (i + 1)
  rw [e] at this
  have h := add_step (by simp; omega) this
  rwa [← e] at h
end Go.Proofs.YtlghgdgpbnlpmaaGreat
