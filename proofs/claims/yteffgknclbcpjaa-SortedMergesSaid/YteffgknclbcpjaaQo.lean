/- What is proved: two sorted lists merged, in plain words. Conditions: none. -/
import Derived.Test.YteffgknclbcpjaaQa
namespace Go.Proofs.Yteffgknclbcpjaa
set_option linter.unusedVariables false
section mrg
variable {α β : Type} {lt : α → α → Bool}
def mrgM (lt : α → α → Bool) (f : β → β → β) (a b : List (α × β)) : List (α × β) :=
  match a, b with
  | [], b => b
  | a, [] => a
  | x :: a, y :: b => if lt x.1 y.1 = true then x :: mrgM lt f a (y :: b) else if lt y.1 x.1 = true then y :: mrgM lt f (x :: a) b else (x.1, f x.2 y.2) :: mrgM lt f a b
termination_by a.length + b.length
theorem mrg_nil (f : β → β → β) (b : List (α × β)) : mrgM lt f [] b = b := by rw [mrgM]
theorem mrg_nil' (f : β → β → β) (a : List (α × β)) : mrgM lt f a [] = a := by cases a <;> simp [mrgM]
theorem mrg_cons (f : β → β → β) (x y : α × β) (a b : List (α × β)) : mrgM lt f (x :: a) (y :: b) = if lt x.1 y.1 = true then x :: mrgM lt f a (y :: b) else if lt y.1 x.1 = true then y :: mrgM lt f (x :: a) b else (x.1, f x.2 y.2) :: mrgM lt f a b := by
  rw [mrgM]
def mrgV (f : β → β → β) : Option β → Option β → Option β
  | some x, some y => some (f x y)
  | some x, none => some x
  | none, y => y
theorem get_mrg (ko : KO lt) (f : β → β → β) (k : α) : ∀ (a b : List (α × β)), getM lt k (mrgM lt f a b) = mrgV f (getM lt k a) (getM lt k b)
  | [], b => by rw [mrg_nil]; rfl
  | x :: a, [] => by
    rw [mrg_nil', show getM lt k ([] : List (α × β)) = none from rfl]
    cases getM lt k (x :: a) <;> rfl
  | x :: a, y :: b => by
    rw [mrg_cons]
    split
    · rename_i h
      rw [getM, get_mrg ko f k a (y :: b), show getM lt k (x :: a) = if lt x.1 k = true then getM lt k a else if lt k x.1 = true then none else some x.2 from rfl]
      split
      · rfl
      · rename_i h1
        have hky : getM lt k (y :: b) = none := by
          have : lt k y.1 = true := by
            rcases ko.tri k x.1 with h2 | h2 | h2
            · exact ko.trans h2 h
            · rw [h2]; exact h
            · exact absurd h2 h1
          rw [getM, if_neg (by rw [ko.asym this]; simp), if_pos this]
        rw [hky]
        split <;> rfl
    · rename_i h
      split
      · rename_i h'
        rw [getM, get_mrg ko f k (x :: a) b, show getM lt k (y :: b) = if lt y.1 k = true then getM lt k b else if lt k y.1 = true then none else some y.2 from rfl]
        split
        · rfl
        · rename_i h1
          have hky : getM lt k (x :: a) = none := by
            have : lt k x.1 = true := by
              rcases ko.tri k y.1 with h2 | h2 | h2
              · exact ko.trans h2 h'
              · rw [h2]; exact h'
              · exact absurd h2 h1
            rw [getM, if_neg (by rw [ko.asym this]; simp), if_pos this]
          rw [hky]
          split <;> rfl
      · rename_i h'
        have e : x.1 = y.1 := ko.eq (by simpa using h) (by simpa using h')
        rw [getM, get_mrg ko f k a b, show getM lt k (x :: a) = if lt x.1 k = true then getM lt k a else if lt k x.1 = true then none else some x.2 from rfl,
          show getM lt k (y :: b) = if lt y.1 k = true then getM lt k b else if lt k y.1 = true then none else some y.2 from rfl, ← e]
        simp only
        split
        · rfl
        · split <;> rfl
termination_by a b => a.length + b.length
theorem mem_mrg (f : β → β → β) : ∀ {a b : List (α × β)} {p : α × β}, p ∈ mrgM lt f a b → (∃ q ∈ a, q.1 = p.1) ∨ (∃ q ∈ b, q.1 = p.1)
  | [], b, p, h => by rw [mrg_nil] at h; exact .inr ⟨p, h, rfl⟩
  | x :: a, [], p, h => by rw [mrg_nil'] at h; exact .inl ⟨p, h, rfl⟩
  | x :: a, y :: b, p, h => by
    rw [mrg_cons] at h
    split at h
    · rcases List.mem_cons.1 h with rfl | h
      · exact .inl ⟨_, List.mem_cons_self .., rfl⟩
      · rcases mem_mrg f h with ⟨q, hq, e⟩ | h
        · exact .inl ⟨q, List.mem_cons_of_mem _ hq, e⟩
        · exact .inr h
    · split at h
      · rcases List.mem_cons.1 h with rfl | h
        · exact .inr ⟨_, List.mem_cons_self .., rfl⟩
        · rcases mem_mrg f h with h | ⟨q, hq, e⟩
          · exact .inl h
          · exact .inr ⟨q, List.mem_cons_of_mem _ hq, e⟩
      · rcases List.mem_cons.1 h with rfl | h
        · exact .inl ⟨x, List.mem_cons_self .., rfl⟩
        · rcases mem_mrg f h with ⟨q, hq, e⟩ | ⟨q, hq, e⟩
          · exact .inl ⟨q, List.mem_cons_of_mem _ hq, e⟩
          · exact .inr ⟨q, List.mem_cons_of_mem _ hq, e⟩
termination_by a b => a.length + b.length
theorem srt_mrg (ko : KO lt) (f : β → β → β) : ∀ {a b : List (α × β)}, srtM lt a → srtM lt b → srtM lt (mrgM lt f a b)
  | [], b, ha, hb => by rw [mrg_nil]; exact hb
  | x :: a, [], ha, hb => by rw [mrg_nil']; exact ha
  | x :: a, y :: b, ha, hb => by
    obtain ⟨ha1, ha2⟩ := List.pairwise_cons.1 ha
    obtain ⟨hb1, hb2⟩ := List.pairwise_cons.1 hb
    rw [mrg_cons]
    split
    · rename_i h
      refine List.pairwise_cons.2 ⟨fun p hp => ?_, srt_mrg ko f ha2 hb⟩
      rcases mem_mrg f hp with ⟨q, hq, e⟩ | ⟨q, hq, e⟩
      · rw [← e]; exact ha1 q hq
      · rw [← e]
        rcases List.mem_cons.1 hq with rfl | hq
        · exact h
        · exact ko.trans h (hb1 q hq)
    · rename_i h
      split
      · rename_i h'
        refine List.pairwise_cons.2 ⟨fun p hp => ?_, srt_mrg ko f ha hb2⟩
        rcases mem_mrg f hp with ⟨q, hq, e⟩ | ⟨q, hq, e⟩
        · rw [← e]
          rcases List.mem_cons.1 hq with rfl | hq
          · exact h'
          · exact ko.trans h' (ha1 q hq)
        · rw [← e]; exact hb1 q hq
      · rename_i h'
        have e0 : x.1 = y.1 := ko.eq (by simpa using h) (by simpa using h')
        refine List.pairwise_cons.2 ⟨fun p hp => ?_, srt_mrg ko f ha2 hb2⟩
        rcases mem_mrg f hp with ⟨q, hq, e⟩ | ⟨q, hq, e⟩
        · rw [← e]; exact ha1 q hq
        · rw [← e]; show lt x.1 q.1 = true; rw [e0]; exact hb1 q hq
termination_by a b => a.length + b.length
theorem mrg_len (f : β → β → β) : ∀ (a b : List (α × β)), (mrgM lt f a b).length ≤ a.length + b.length
  | [], b => by rw [mrg_nil]; simp
  | x :: a, [] => by rw [mrg_nil']; simp
  | x :: a, y :: b => by
    rw [mrg_cons]
    split
    · have := mrg_len f a (y :: b); simp at *; omega
    · split
      · have := mrg_len f (x :: a) b; simp at *; omega
      · have := mrg_len f a b; simp at *; omega
termination_by a b => a.length + b.length
variable {f : β → β → β} {a b : List (α × β)} {i k : Nat}
theorem mrg_lt (hi : i < a.length) (hk : k < b.length) (h : lt a[i].1 b[k].1 = true) : mrgM lt f (a.drop i) (b.drop k) = a[i] :: mrgM lt f (a.drop (i + 1)) (b.drop k) := by
  rw [List.drop_eq_getElem_cons hi, List.drop_eq_getElem_cons hk, mrg_cons, if_pos h]
theorem mrg_gt (hi : i < a.length) (hk : k < b.length) (h : lt a[i].1 b[k].1 = false) (h' : lt b[k].1 a[i].1 = true) : mrgM lt f (a.drop i) (b.drop k) = b[k] :: mrgM lt f (a.drop i) (b.drop (k + 1)) := by
  rw [List.drop_eq_getElem_cons hi, List.drop_eq_getElem_cons hk, mrg_cons, if_neg (by rw [h]; simp), if_pos h']
theorem mrg_eq (hi : i < a.length) (hk : k < b.length) (h : lt a[i].1 b[k].1 = false) (h' : lt b[k].1 a[i].1 = false) : mrgM lt f (a.drop i) (b.drop k) = (a[i].1, f a[i].2 b[k].2) :: mrgM lt f (a.drop (i + 1)) (b.drop (k + 1)) := by
  rw [List.drop_eq_getElem_cons hi, List.drop_eq_getElem_cons hk, mrg_cons, if_neg (by rw [h]; simp), if_neg (by rw [h']; simp)]
theorem mrg_l (hi : i < a.length) : mrgM lt f (a.drop i) (b.drop b.length) = a[i] :: mrgM lt f (a.drop (i + 1)) (b.drop b.length) := by
  rw [List.drop_length, mrg_nil', mrg_nil', List.drop_eq_getElem_cons hi]
theorem mrg_r (hk : k < b.length) : mrgM lt f (a.drop a.length) (b.drop k) = b[k] :: mrgM lt f (a.drop a.length) (b.drop (k + 1)) := by
  rw [List.drop_length, mrg_nil, mrg_nil, List.drop_eq_getElem_cons hk]
theorem mrg_e : mrgM lt f (a.drop a.length) (b.drop b.length) = [] := by
  rw [List.drop_length, List.drop_length, mrg_nil]
end mrg
theorem vals_or {k : ByteArray} : ∀ {h : List Act1} {acc : Option Int}, (h.map putA).foldl (stepV k) acc = ((h.map putA).foldl (stepV k) none).or acc
  | [], acc => by simp
  | x :: r, acc => by
    rw [List.map_cons, List.foldl_cons, List.foldl_cons, vals_or (acc := stepV k acc (putA x)), vals_or (acc := stepV k none (putA x))]
    unfold stepV
    split
    · cases (r.map putA).foldl (stepV k) none <;> simp [putA]
    · cases (r.map putA).foldl (stepV k) none <;> simp
theorem later_map (a b : List Act1) : mapO (a.map putA ++ b.map putA) = mrgM ltS (fun _ y => y) (mapO (a.map putA)) (mapO (b.map putA)) := by
  refine map_ext koS (mapO_spec _).1 (srt_mrg koS _ (mapO_spec _).1 (mapO_spec _).1) fun k => ?_
  rw [(mapO_spec _).2, get_mrg koS, (mapO_spec _).2, (mapO_spec _).2]
  have : valO (a.map putA ++ b.map putA) k = (valO (b.map putA) k).or (valO (a.map putA) k) := by
    show (a.map putA ++ b.map putA).foldl (stepV k) none = _
    rw [List.foldl_append, vals_or]
    rfl
  rw [this]
  cases valO (a.map putA) k <;> cases valO (b.map putA) k <;> rfl
end Go.Proofs.Yteffgknclbcpjaa
