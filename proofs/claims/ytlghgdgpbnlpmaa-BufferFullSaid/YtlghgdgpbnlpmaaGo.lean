/- What is proved: chapter 23's law function GateOrder answers true. Conditions: none. -/
import Derived.Test.YtlghgdgpbnlpmaaGk
namespace Go.Proofs.Ytlghgdgpbnlpmaa
open Go.RowKit
set_option linter.unusedVariables false
set_option linter.unusedSimpArgs false
set_option maxRecDepth 100000
set_option maxHeartbeats 16000000
theorem mem_ins {b x : Bun} {l : List Bun} : x ∈ insG b l ↔ x = b ∨ x ∈ l := by
  unfold insG
  rw [List.mem_append, List.mem_cons]
  constructor
  · rintro (h | h | h)
    · exact .inr (List.mem_of_mem_take h)
    · exact .inl h
    · exact .inr (List.mem_of_mem_drop h)
  · rintro (h | h)
    · exact .inr (.inl h)
    · rw [← List.take_append_drop (posG b l) l, List.mem_append] at h
      rcases h with h | h
      · exact .inl h
      · exact .inr (.inr h)
theorem GI.eq {a b : List Bun} (ha : GI a) (hb : GI b) (h : ∀ x, x ∈ a ↔ x ∈ b) : a = b := by
  have hm : ∀ {l : List Bun} {k : Int} {x : Bun}, (k, x) ∈ gm l ↔ x ∈ l ∧ keyB x = k := fun {l k x} => by
    unfold gm
    rw [List.mem_map]
    constructor
    · rintro ⟨y, hy, e⟩; cases e; exact ⟨hy, rfl⟩
    · rintro ⟨hx, rfl⟩; exact ⟨x, hx, rfl⟩
  have e : gm a = gm b := map_ext koI ha.srt hb.srt fun k => by
    have key : ∀ x, getM ltI k (gm a) = some x ↔ getM ltI k (gm b) = some x := fun x => by
      rw [get_mem koI ha.srt, get_mem koI hb.srt, hm, hm, h]
    cases hx : getM ltI k (gm a) with
    | some x => exact ((key x).1 hx).symm
    | none =>
      cases hy : getM ltI k (gm b) with
      | none => rfl
      | some y => rw [(key y).2 hy] at hx; cases hx
  have e2 := congrArg (List.map Prod.snd) e
  unfold gm at e2
  rw [List.map_map, List.map_map] at e2
  simpa [Function.comp_def] using e2
/-- bundles that may all wait -/
structure Apart (l : List Bun) : Prop where
  ok : ∀ b ∈ l, rightB b = true ∧ SmB b
  nd : (l.map keyB).Nodup
theorem Apart.take {l : List Bun} (h : Apart l) (i : Nat) : Apart (l.take i) := ⟨fun b hb => h.ok b (List.mem_of_mem_take hb), h.nd.sublist ((List.take_sublist i l).map _)⟩
end Go.Proofs.Ytlghgdgpbnlpmaa
