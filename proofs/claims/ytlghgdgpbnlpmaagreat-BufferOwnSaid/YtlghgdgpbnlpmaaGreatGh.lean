/- What is proved: plain gates. Conditions: none. -/
import Derived.Test.YtlghgdgpbnlpmaaGreatMGb
namespace Go.Proofs.YtlghgdgpbnlpmaaGreat
open Go.RowKit
set_option linter.unusedVariables false
set_option linter.unusedSimpArgs false
def gm (l : List Bun) : List (Int × Bun) := l.map fun b => (keyB b, b)
theorem gm_len (l : List Bun) : (gm l).length = l.length := List.length_map ..
theorem gm_append (a b : List Bun) : gm (a ++ b) = gm a ++ gm b := List.map_append ..
theorem gm_cons (x : Bun) (b : List Bun) : gm (x :: b) = (keyB x, x) :: gm b := rfl
theorem gm_get {l : List Bun} {i : Nat} (h : i < (gm l).length) : (gm l)[i] = (keyB (l[i]'(by rw [gm_len] at h; exact h)), l[i]'(by rw [gm_len] at h; exact h)) := by
  simp only [gm, List.getElem_map]
theorem gm_take (l : List Bun) (i : Nat) : (gm l).take i = gm (l.take i) := by unfold gm; rw [List.map_take]
theorem gm_drop (l : List Bun) (i : Nat) : (gm l).drop i = gm (l.drop i) := by unfold gm; rw [List.map_drop]
/-- what a gate holds is right, small, and in order -/
structure GI (l : List Bun) : Prop where
  ok : ∀ b ∈ l, rightB b = true ∧ SmB b
  srt : srtM ltI (gm l)
theorem GI.nil : GI [] := ⟨fun b hb => (by cases hb), by unfold gm srtM; exact List.Pairwise.nil⟩
theorem GI.sub {l l' : List Bun} (h : GI l) (hs : l'.Sublist l) : GI l' := ⟨fun b hb => h.ok b (hs.subset hb), List.Pairwise.sublist (hs.map _) h.srt⟩
theorem gm_lt {A D : List Bun} {b : Bun} (h : srtM ltI (gm (A ++ b :: D))) : (∀ x ∈ A, keyB x < keyB b) ∧ ∀ x ∈ D, keyB b < keyB x := by
  rw [gm_append, gm_cons] at h
  unfold srtM at h
  rw [List.pairwise_append, List.pairwise_cons] at h
  obtain ⟨h1, ⟨h2, h3⟩, h4⟩ := h
  constructor
  · intro x hx
    have := h4 (keyB x, x) (List.mem_map.2 ⟨x, hx, rfl⟩) (keyB b, b) (List.mem_cons_self ..)
    simpa [ltI] using this
  · intro x hx
    have := h2 (keyB x, x) (List.mem_map.2 ⟨x, hx, rfl⟩)
    simpa [ltI] using this
def posG (b : Bun) (l : List Bun) : Nat := posM ltI (keyB b) (gm l)
def fndG (b : Bun) (l : List Bun) : Bool := fndM ltI (keyB b) (gm l)
def insG (b : Bun) (l : List Bun) : List Bun := l.take (posG b l) ++ b :: l.drop (posG b l)
theorem posG_le (b : Bun) (l : List Bun) : posG b l ≤ l.length := by unfold posG; rw [← gm_len l]; exact posM_le _ _
theorem insG_gm {b : Bun} {l : List Bun} (h : fndG b l = false) : putM ltI (keyB b) b (gm l) = gm (insG b l) := by
  rw [put_no h, gm_take, gm_drop]
  unfold insG
  rw [gm_append, gm_cons]
  rfl
theorem insG_len (b : Bun) (l : List Bun) : (insG b l).length = l.length + 1 := by
  have := posG_le b l
  unfold insG
  simp only [List.length_append, List.length_take, List.length_cons, List.length_drop]
  omega
theorem GI.ins {b : Bun} {l : List Bun} (h : GI l) (hb : rightB b = true) (hs : SmB b) (hf : fndG b l = false) : GI (insG b l) := by
  refine ⟨fun x hx => ?_, by rw [← insG_gm hf]; exact srt_put koI _ _ h.srt⟩
  unfold insG at hx
  rcases List.mem_append.1 hx with hx | hx
  · exact h.ok x (List.mem_of_mem_take hx)
  · rcases List.mem_cons.1 hx with rfl | hx
    · exact ⟨hb, hs⟩
    · exact h.ok x (List.mem_of_mem_drop hx)
theorem posG_lt {b : Bun} {l : List Bun} {i : Nat} (hi : i < posG b l) (hl : i < l.length) : keyB l[i] < keyB b := by
  have := posM_lt (lt := ltI) (k := keyB b) (l := gm l) hi (by rw [gm_len]; exact hl)
  rw [gm_get] at this
  simpa [ltI] using this
theorem posG_ge {b : Bun} {l : List Bun} (h : GI l) {i : Nat} (hi : posG b l ≤ i) (hl : i < l.length) : keyB b ≤ keyB l[i] := by
  have := posM_ge koI (k := keyB b) h.srt (j := i) (by rw [gm_len]; exact hl) hi
  rw [gm_get] at this
  simpa [ltI] using this
theorem fndG_iff {b : Bun} {l : List Bun} : fndG b l = true ↔ ∃ h : posG b l < l.length, keyB (l[posG b l]) = keyB b := by
  unfold fndG
  rw [fnd_iff koI]
  constructor
  · rintro ⟨h1, h2⟩
    rw [gm_get] at h2
    exact ⟨by rw [gm_len] at h1; exact h1, h2⟩
  · rintro ⟨h1, h2⟩
    exact ⟨by rw [gm_len]; exact h1, by rw [gm_get]; exact h2⟩
theorem fndG_no {b : Bun} {l : List Bun} (hG : GI l) (h : fndG b l = false) {i : Nat} (hl : i < l.length) : keyB l[i] ≠ keyB b := fun e => by
  have h1 : posG b l ≤ i := Nat.not_lt.1 fun hlt => by have := posG_lt hlt hl; omega
  have h2 : fndG b l = true := by
    refine fndG_iff.2 ⟨by omega, ?_⟩
    have h3 := posG_ge hG (Nat.le_refl (posG b l)) (by omega)
    rcases Nat.lt_or_eq_of_le h1 with h4 | h4
    · have h5 := List.pairwise_iff_getElem.1 hG.srt (posG b l) i (by rw [gm_len]; omega) (by rw [gm_len]; exact hl) h4
      rw [gm_get, gm_get] at h5
      have : keyB l[posG b l] < keyB l[i] := by simpa [ltI] using h5
      omega
    · simp only [h4]; exact e
  rw [h] at h2
  cases h2
theorem get_none {b : Bun} {l : List Bun} (h : fndG b l = false) : getM ltI (keyB b) (gm l) = none := by unfold fndG fndM at h; simpa using h
theorem get_some {b : Bun} {l : List Bun} (h : fndG b l = true) : ∃ x, getM ltI (keyB b) (gm l) = some x := by unfold fndG fndM at h; exact Option.isSome_iff_exists.1 h
/-- keys and places -/
theorem key_lt {a b : Bun} (ha : rightB a = true) (hb : rightB b = true) : keyB a < keyB b ↔ a.dc < b.dc ∨ (a.dc = b.dc ∧ a.af < b.af) := by
  obtain ⟨⟨⟨a0, a4⟩, a1, a2, a3, -⟩, -⟩ := right_nums ha
  obtain ⟨⟨⟨b0, b4⟩, b1, b2, b3, -⟩, -⟩ := right_nums hb
  unfold keyB
  omega
theorem key_eq {a b : Bun} (ha : rightB a = true) (hb : rightB b = true) : keyB a = keyB b ↔ a.dc = b.dc ∧ a.af = b.af := by
  obtain ⟨⟨⟨a0, a4⟩, a1, a2, a3, -⟩, -⟩ := right_nums ha
  obtain ⟨⟨⟨b0, b4⟩, b1, b2, b3, -⟩, -⟩ := right_nums hb
  unfold keyB
  omega
/-- what Add does: the gate behind it, whether it took it, which error -/
def addG (l : List Bun) (b : Bun) : List Bun × Bool × Int :=
  if rightB b = true then (if fndG b l = true then (l, false, 0) else if 64 ≤ l.length then (l, false, 4) else (insG b l, true, 0)) else (l, false, 1)
theorem addG_no {l : List Bun} {b : Bun} (h : rightB b = false) : addG l b = (l, false, 1) := by unfold addG; rw [if_neg (by rw [h]; decide)]
theorem addG_there {l : List Bun} {b : Bun} (h : rightB b = true) (hf : fndG b l = true) : addG l b = (l, false, 0) := by unfold addG; rw [if_pos h, if_pos hf]
theorem addG_full {l : List Bun} {b : Bun} (h : rightB b = true) (hf : fndG b l = false) (hl : 64 ≤ l.length) : addG l b = (l, false, 4) := by unfold addG; rw [if_pos h, if_neg (by rw [hf]; decide), if_pos hl]
theorem addG_in {l : List Bun} {b : Bun} (h : rightB b = true) (hf : fndG b l = false) (hl : ¬ 64 ≤ l.length) : addG l b = (insG b l, true, 0) := by unfold addG; rw [if_pos h, if_neg (by rw [hf]; decide), if_neg hl]
theorem addG_len {l : List Bun} {b : Bun} (h : l.length ≤ 64) : (addG l b).1.length ≤ 64 := by
  unfold addG
  split
  · split
    · exact h
    · split
      · exact h
      · show (insG b l).length ≤ 64
        rw [insG_len]; omega
  · exact h
theorem GI.add {l : List Bun} (h : GI l) {b : Bun} (hb : SmB b) : GI (addG l b).1 := by
  cases hr : rightB b
  · rw [addG_no hr]; exact h
  cases hf : fndG b l
  · by_cases hl : 64 ≤ l.length
    · rw [addG_full hr hf hl]; exact h
    · rw [addG_in hr hf hl]; exact h.ins hr hb hf
  · rw [addG_there hr hf]; exact h
/-! what goes -/
theorem del_mid {A D : List Bun} {b : Bun} (h : srtM ltI (gm (A ++ b :: D))) : delM ltI (keyB b) (gm (A ++ b :: D)) = gm (A ++ D) := by
  obtain ⟨h1, h2⟩ := gm_lt h
  have hl : (gm (A ++ b :: D)).length = A.length + (D.length + 1) := by rw [gm_len]; simp
  have hp : posM ltI (keyB b) (gm (A ++ b :: D)) = A.length := by
    refine posM_uniq (by omega) (fun j hj hjA => ?_) (fun j hj hjA => ?_)
    · rw [gm_get]
      have : (A ++ b :: D)[j]'(by rw [gm_len] at hj; exact hj) = A[j] := List.getElem_append_left hjA
      simp only [this]
      have := h1 A[j] (List.getElem_mem hjA)
      simpa [ltI] using this
    · rw [gm_get]
      have e : (A ++ b :: D)[j]'(by rw [gm_len] at hj; exact hj) = (b :: D)[j - A.length]'(by simp; omega) := List.getElem_append_right hjA
      simp only [e]
      rcases Nat.eq_zero_or_pos (j - A.length) with h0 | h0
      · simp [h0, ltI]
      · obtain ⟨m, hm⟩ : ∃ m, j - A.length = m + 1 := ⟨j - A.length - 1, by omega⟩
        simp only [hm, List.getElem_cons_succ]
        have := h2 (D[m]'(by omega)) (List.getElem_mem _)
        simp [ltI]; omega
  have hf : fndM ltI (keyB b) (gm (A ++ b :: D)) = true := (fnd_iff koI).2 ⟨by omega, by
    simp only [hp]
    rw [gm_get]
    simp⟩
  rw [del_yes hf, hp, gm_take, gm_drop, ← gm_append]
  congr 1
  rw [List.take_left' rfl, List.drop_append]
  simp
/-- what isn't known -/
def restG (l : List Bun) (v : Int → Int) : List Bun := l.filter fun b => !knownB b v
def midG (l : List Bun) (v : Int → Int) (i : Nat) : List Bun := restG (l.take i) v ++ l.drop i
theorem midG_zero (l : List Bun) (v : Int → Int) : midG l v 0 = l := rfl
theorem midG_end (l : List Bun) (v : Int → Int) : midG l v l.length = restG l v := by unfold midG; rw [List.take_length, List.drop_length, List.append_nil]
theorem restG_snoc (l : List Bun) (v : Int → Int) (b : Bun) : restG (l ++ [b]) v = restG l v ++ (if knownB b v = true then [] else [b]) := by
  unfold restG
  rw [List.filter_append]
  congr 1
  cases h : knownB b v <;> simp [h]
theorem midG_at {l : List Bun} {v : Int → Int} {i : Nat} (h : i < l.length) : midG l v i = restG (l.take i) v ++ l[i] :: l.drop (i + 1) := by
  unfold midG; rw [← List.drop_eq_getElem_cons h]
theorem midG_succ {l : List Bun} {v : Int → Int} {i : Nat} (h : i < l.length) : midG l v (i + 1) = if knownB l[i] v = true then restG (l.take i) v ++ l.drop (i + 1) else midG l v i := by
  unfold midG
  rw [List.take_succ_eq_append_getElem h, restG_snoc]
  split
  · rw [List.append_nil]
  · rw [List.append_assoc, List.singleton_append, ← List.drop_eq_getElem_cons h]
theorem midG_sub (l : List Bun) (v : Int → Int) (i : Nat) : (midG l v i).Sublist l := by
  unfold midG restG
  have := (List.filter_sublist (p := fun b => !knownB b v) (l := l.take i)).append (List.Sublist.refl (l.drop i))
  rwa [List.take_append_drop] at this
theorem midG_del {l : List Bun} (hG : GI l) {v : Int → Int} {i : Nat} (h : i < l.length) (hk : knownB l[i] v = true) : delM ltI (keyB l[i]) (gm (midG l v i)) = gm (midG l v (i + 1)) := by
  have hs := (hG.sub (midG_sub l v i)).srt
  rw [midG_succ h, if_pos hk]
  rw [midG_at h] at hs ⊢
  exact del_mid hs
theorem midG_len (l : List Bun) (v : Int → Int) (i : Nat) : (midG l v i).length ≤ l.length := (midG_sub l v i).length_le
def nextG (l : List Bun) (v : Int → Int) : List Bun × Bun × Bool :=
  match (restG l v).findIdx? (fun b => readyB b v) with
  | some i => ((restG l v).take i ++ (restG l v).drop (i + 1), (restG l v).getD i zeroB, true)
  | none => (restG l v, zeroB, false)
theorem restG_sub (l : List Bun) (v : Int → Int) : (restG l v).Sublist l := List.filter_sublist
theorem nextG_sub (l : List Bun) (v : Int → Int) : (nextG l v).1.Sublist l := by
  unfold nextG
  split
  · refine List.Sublist.trans ?_ (restG_sub l v)
    rename_i i _
    have := (List.Sublist.refl ((restG l v).take i)).append (List.drop_sublist_drop_left (restG l v) (Nat.le_succ i))
    rwa [List.take_append_drop] at this
  · exact restG_sub l v
theorem GI.next {l : List Bun} (h : GI l) (v : Int → Int) : GI (nextG l v).1 := h.sub (nextG_sub l v)
theorem nextG_len (l : List Bun) (v : Int → Int) : (nextG l v).1.length ≤ l.length := (nextG_sub l v).length_le
theorem nextG_none {l : List Bun} {v : Int → Int} (h : ∀ j (hj : j < (restG l v).length), readyB ((restG l v)[j]) v = false) : nextG l v = (restG l v, zeroB, false) := by
  unfold nextG
  have : (restG l v).findIdx? (fun b => readyB b v) = none := List.findIdx?_eq_none_iff.2 fun x hx => by
    obtain ⟨j, hj, rfl⟩ := List.getElem_of_mem hx
    exact h j hj
  rw [this]
theorem nextG_some {l : List Bun} {v : Int → Int} {i : Nat} (hi : i < (restG l v).length) (hr : readyB ((restG l v)[i]) v = true) (h : ∀ j (hj : j < i) (hjl : j < (restG l v).length), readyB ((restG l v)[j]) v = false) : nextG l v = ((restG l v).take i ++ (restG l v).drop (i + 1), (restG l v)[i], true) := by
  unfold nextG
  have : (restG l v).findIdx? (fun b => readyB b v) = some i := List.findIdx?_eq_some_iff_getElem.2 ⟨hi, hr, fun j hj => by rw [h j hj (by omega)]; decide⟩
  rw [this]
  simp [List.getD_eq_getElem?_getD, hi]
theorem zeroB_Sm : SmB zeroB := ⟨by decide, by decide, by decide⟩
theorem nextG_Sm {l : List Bun} (h : GI l) (v : Int → Int) : SmB (nextG l v).2.1 := by
  unfold nextG
  split
  · rename_i i hi
    have := (List.findIdx?_eq_some_iff_getElem.1 hi).1
    show SmB ((restG l v).getD i zeroB)
    rw [List.getD_eq_getElem?_getD, List.getElem?_eq_getElem this]
    exact (h.ok _ ((restG_sub l v).subset (List.getElem_mem this))).2
  · exact zeroB_Sm
end Go.Proofs.YtlghgdgpbnlpmaaGreat
