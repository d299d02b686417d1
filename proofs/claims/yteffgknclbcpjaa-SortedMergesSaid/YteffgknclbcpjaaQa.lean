/- What is proved: plain sorted maps: what putting, taking away and asking do. Conditions: none. -/
import Derived.Test.YteffgknclbcpjaaEn
import Derived.Lib.Strings
namespace Go.Proofs.Yteffgknclbcpjaa
open Go.RowKit
set_option linter.unusedVariables false
set_option linter.unusedSimpArgs false
/-! orders -/
structure KO {α : Type} (lt : α → α → Bool) : Prop where
  irr : ∀ a, lt a a = false
  trans : ∀ {a b c : α}, lt a b = true → lt b c = true → lt a c = true
  tri : ∀ a b, lt a b = true ∨ a = b ∨ lt b a = true
theorem KO.asym {α : Type} {lt : α → α → Bool} (h : KO lt) {a b : α} (hab : lt a b = true) : lt b a = false := by
  cases hb : lt b a
  · rfl
  · have := h.trans hab hb
    rw [h.irr] at this
    cases this
theorem KO.eq {α : Type} {lt : α → α → Bool} (h : KO lt) {a b : α} (h1 : lt a b = false) (h2 : lt b a = false) : a = b := by
  rcases h.tri a b with h3 | h3 | h3
  · rw [h1] at h3; cases h3
  · exact h3
  · rw [h2] at h3; cases h3
theorem bl_irrefl : ∀ x : List UInt8, Op.bytesLess x x = false
  | [] => rfl
  | a :: x => by simp [Op.bytesLess, bl_irrefl x, UInt8.lt_irrefl]
theorem bl_trans : ∀ {x y z : List UInt8}, Op.bytesLess x y = true → Op.bytesLess y z = true → Op.bytesLess x z = true
  | _, [], _, h, _ => by cases ‹List UInt8› <;> simp [Op.bytesLess] at h
  | [], b :: y, [], _, h => by simp [Op.bytesLess] at h
  | [], b :: y, c :: z, _, _ => by simp [Op.bytesLess]
  | a :: x, b :: y, [], _, h => by simp [Op.bytesLess] at h
  | a :: x, b :: y, c :: z, h1, h2 => by
    simp only [Op.bytesLess, Bool.or_eq_true, decide_eq_true_eq, Bool.and_eq_true, beq_iff_eq] at h1 h2 ⊢
    rcases h1 with h1 | ⟨rfl, h1⟩
    · rcases h2 with h2 | ⟨rfl, h2⟩
      · exact .inl (UInt8.lt_trans h1 h2)
      · exact .inl h1
    · rcases h2 with h2 | ⟨rfl, h2⟩
      · exact .inl h2
      · exact .inr ⟨rfl, bl_trans h1 h2⟩
theorem bl_tri : ∀ x y : List UInt8, Op.bytesLess x y = true ∨ x = y ∨ Op.bytesLess y x = true
  | [], [] => .inr (.inl rfl)
  | [], b :: y => .inl rfl
  | a :: x, [] => .inr (.inr rfl)
  | a :: x, b :: y => by
    simp only [Op.bytesLess, Bool.or_eq_true, decide_eq_true_eq, Bool.and_eq_true, beq_iff_eq, List.cons.injEq]
    rcases Nat.lt_trichotomy a.toNat b.toNat with h | h | h
    · exact .inl (.inl h)
    · have : a = b := UInt8.toNat_inj.1 h
      subst this
      rcases bl_tri x y with h | h | h
      · exact .inl (.inr ⟨rfl, h⟩)
      · exact .inr (.inl ⟨rfl, h⟩)
      · exact .inr (.inr (.inr ⟨rfl, h⟩))
    · exact .inr (.inr (.inl h))
theorem gtr_eq (x y : List UInt8) : (!(Op.bytesLess x y || x == y)) = Op.bytesLess y x := by
  rcases bl_tri x y with h | h | h
  · have : Op.bytesLess y x = false := by
      cases h' : Op.bytesLess y x
      · rfl
      · have := bl_trans h h'
        rw [bl_irrefl] at this
        cases this
    rw [h, this]; rfl
  · subst h
    simp [bl_irrefl]
  · rw [h]
    have : Op.bytesLess x y = false := by
      cases h' : Op.bytesLess x y
      · rfl
      · have := bl_trans h h'
        rw [bl_irrefl] at this
        cases this
    rw [this]
    have : ¬ x = y := fun e => by rw [e, bl_irrefl] at h; cases h
    simp [this]
theorem bytes_eq {a b : ByteArray} (h : a.toList = b.toList) : a = b := by
  rw [Go.Lib.toList_data, Go.Lib.toList_data] at h
  exact ByteArray.ext (Array.toList_inj.1 h)
def ltS (a b : ByteArray) : Bool := Op.bytesLess a.toList b.toList
def ltI (a b : Int) : Bool := decide (a < b)
theorem koS : KO ltS := ⟨fun a => bl_irrefl _, fun h1 h2 => bl_trans h1 h2, fun a b => by
  rcases bl_tri a.toList b.toList with h | h | h
  · exact .inl h
  · exact .inr (.inl (bytes_eq h))
  · exact .inr (.inr h)⟩
theorem koI : KO ltI := ⟨fun a => by simp [ltI], fun h1 h2 => by simp only [ltI, decide_eq_true_eq] at *; omega, fun a b => by simp only [ltI, decide_eq_true_eq]; omega⟩

/-! maps -/
section maps
variable {α β : Type}
def cmpO (lt : α → α → Bool) (a b : α) : Int := if lt a b = true then -1 else if lt b a = true then 1 else 0
def srtM (lt : α → α → Bool) (l : List (α × β)) : Prop := l.Pairwise (fun a b => lt a.1 b.1 = true)
/-- where a key stands, or would -/
def posM (lt : α → α → Bool) (k : α) : List (α × β) → Nat
  | [] => 0
  | p :: r => if lt p.1 k = true then posM lt k r + 1 else 0
def getM (lt : α → α → Bool) (k : α) : List (α × β) → Option β
  | [] => none
  | p :: r => if lt p.1 k = true then getM lt k r else if lt k p.1 = true then none else some p.2
def putM (lt : α → α → Bool) (k : α) (v : β) : List (α × β) → List (α × β)
  | [] => [(k, v)]
  | p :: r => if lt p.1 k = true then p :: putM lt k v r else if lt k p.1 = true then (k, v) :: p :: r else (k, v) :: r
def delM (lt : α → α → Bool) (k : α) : List (α × β) → List (α × β)
  | [] => []
  | p :: r => if lt p.1 k = true then p :: delM lt k r else if lt k p.1 = true then p :: r else r
variable {lt : α → α → Bool}
theorem posM_le (k : α) : ∀ l : List (α × β), posM lt k l ≤ l.length
  | [] => Nat.le_refl _
  | p :: r => by
    rw [posM]
    have := posM_le k r
    split <;> simp <;> omega
theorem posM_lt {k : α} : ∀ {l : List (α × β)} {j : Nat} (hj : j < posM lt k l) (hl : j < l.length), lt l[j].1 k = true
  | [], j, hj, hl => by simp at hl
  | p :: r, j, hj, hl => by
    rw [posM] at hj
    split at hj
    · rename_i h
      cases j with
      | zero => exact h
      | succ j => exact posM_lt (l := r) (by omega) (by simpa using hl)
    · omega
theorem posM_at {k : α} : ∀ {l : List (α × β)} (hl : posM lt k l < l.length), lt (l[posM lt k l]).1 k = false
  | [], hl => by simp [posM] at hl
  | p :: r, hl => by
    by_cases h : lt p.1 k = true
    · have e : posM lt k (p :: r) = posM lt k r + 1 := by rw [posM, if_pos h]
      have hl' : posM lt k r < r.length := by rw [e] at hl; simpa using hl
      have := posM_at hl'
      simp only [e]
      simpa using this
    · have e : posM lt k (p :: r) = 0 := by rw [posM, if_neg h]
      simp only [e]
      simpa using h
/-- a place below which all is less, and from which on nothing is -/
theorem posM_uniq {k : α} {l : List (α × β)} {i : Nat} (hi : i ≤ l.length) (h1 : ∀ j (hj : j < l.length), j < i → lt l[j].1 k = true) (h2 : ∀ j (hj : j < l.length), i ≤ j → lt l[j].1 k = false) : posM lt k l = i := by
  rcases Nat.lt_trichotomy (posM lt k l) i with h | h | h
  · have h3 := posM_at (lt := lt) (k := k) (l := l) (by omega)
    rw [h1 _ _ h] at h3
    cases h3
  · exact h
  · have hl := posM_le (lt := lt) k l
    have h3 := posM_lt (lt := lt) (k := k) (l := l) h (by omega)
    rw [h2 i (by omega) (Nat.le_refl _)] at h3
    cases h3
theorem posM_ge (ko : KO lt) {k : α} {l : List (α × β)} (hs : srtM lt l) {j : Nat} (hj : j < l.length) (hp : posM lt k l ≤ j) : lt l[j].1 k = false := by
  have h0 := posM_at (lt := lt) (k := k) (l := l) (by omega)
  rcases Nat.lt_or_eq_of_le hp with h | h
  · cases h2 : lt l[j].1 k
    · rfl
    · have := List.pairwise_iff_getElem.1 hs _ j (by omega) hj h
      rw [ko.trans this h2] at h0
      cases h0
  · subst h; exact h0
/-- is the key there? -/
def fndM (lt : α → α → Bool) (k : α) (l : List (α × β)) : Bool := (getM lt k l).isSome
theorem get_fnd {k : α} : ∀ {l : List (α × β)} (hl : posM lt k l < l.length), getM lt k l = if lt k (l[posM lt k l]).1 = true then none else some (l[posM lt k l]).2
  | [], hl => by simp [posM] at hl
  | p :: r, hl => by
    by_cases h : lt p.1 k = true
    · have e : posM lt k (p :: r) = posM lt k r + 1 := by rw [posM, if_pos h]
      have hl' : posM lt k r < r.length := by rw [e] at hl; simpa using hl
      rw [getM, if_pos h, get_fnd hl']
      simp only [e]
      simp
    · have e : posM lt k (p :: r) = 0 := by rw [posM, if_neg h]
      rw [getM, if_neg h]
      simp only [e]
      simp
theorem get_end {k : α} : ∀ {l : List (α × β)} (hl : l.length ≤ posM lt k l), getM lt k l = none
  | [], hl => rfl
  | p :: r, hl => by
    rw [posM] at hl
    split at hl
    · rename_i h
      rw [getM, if_pos h]
      exact get_end (by simpa using hl)
    · simp at hl
theorem fnd_iff (ko : KO lt) {k : α} {l : List (α × β)} : fndM lt k l = true ↔ ∃ h : posM lt k l < l.length, (l[posM lt k l]).1 = k := by
  unfold fndM
  by_cases hl : posM lt k l < l.length
  · rw [get_fnd hl]
    have h0 := posM_at hl
    constructor
    · intro h
      refine ⟨hl, ko.eq h0 ?_⟩
      split at h
      · cases h
      · rename_i h1; simpa using h1
    · rintro ⟨_, h⟩
      rw [h, ko.irr]
      rfl
  · rw [get_end (by omega)]
    exact ⟨fun h => (by cases h), fun ⟨h, _⟩ => absurd h hl⟩
theorem fnd_get {k : α} {l : List (α × β)} (h : fndM lt k l = true) (hl : posM lt k l < l.length) : getM lt k l = some (l[posM lt k l]).2 := by
  have h1 := get_fnd hl
  unfold fndM at h
  rw [h1] at h ⊢
  split at h
  · cases h
  · rename_i h2
    rw [if_neg h2]
theorem put_no {k : α} {v : β} : ∀ {l : List (α × β)}, fndM lt k l = false → putM lt k v l = l.take (posM lt k l) ++ (k, v) :: l.drop (posM lt k l)
  | [], _ => rfl
  | p :: r, h => by
    unfold fndM at h
    rw [getM] at h
    rw [putM, posM]
    split
    · rename_i h1
      rw [if_pos h1] at h
      rw [put_no (l := r) h]
      simp
    · rename_i h1
      rw [if_neg h1] at h
      split
      · simp
      · rename_i h2
        rw [if_neg h2] at h
        cases h
theorem put_yes {k : α} {v : β} : ∀ {l : List (α × β)}, fndM lt k l = true → putM lt k v l = l.set (posM lt k l) (k, v)
  | [], h => by cases h
  | p :: r, h => by
    unfold fndM at h
    rw [getM] at h
    rw [putM, posM]
    split
    · rename_i h1
      rw [if_pos h1] at h
      rw [put_yes (l := r) h]
      simp
    · rename_i h1
      rw [if_neg h1] at h
      split
      · rename_i h2
        rw [if_pos h2] at h
        cases h
      · simp
theorem del_no {k : α} : ∀ {l : List (α × β)}, fndM lt k l = false → delM lt k l = l
  | [], _ => rfl
  | p :: r, h => by
    unfold fndM at h
    rw [getM] at h
    rw [delM]
    split
    · rename_i h1
      rw [if_pos h1] at h
      rw [del_no (l := r) h]
    · rename_i h1
      rw [if_neg h1] at h
      split
      · rfl
      · rename_i h2
        rw [if_neg h2] at h
        cases h
theorem del_yes {k : α} : ∀ {l : List (α × β)}, fndM lt k l = true → delM lt k l = l.take (posM lt k l) ++ l.drop (posM lt k l + 1)
  | [], h => by cases h
  | p :: r, h => by
    unfold fndM at h
    rw [getM] at h
    rw [delM, posM]
    split
    · rename_i h1
      rw [if_pos h1] at h
      rw [del_yes (l := r) h]
      simp
    · rename_i h1
      rw [if_neg h1] at h
      split
      · rename_i h2
        rw [if_pos h2] at h
        cases h
      · simp
theorem get_put (ko : KO lt) (k : α) (v : β) : ∀ l : List (α × β), getM lt k (putM lt k v l) = some v
  | [] => by simp [putM, getM, ko.irr]
  | p :: r => by
    rw [putM]
    split
    · rename_i h
      rw [getM, if_pos h]
      exact get_put ko k v r
    · split <;> simp [getM, ko.irr]
theorem get_put' (ko : KO lt) {k k' : α} (hne : k' ≠ k) (v : β) : ∀ l : List (α × β), getM lt k' (putM lt k v l) = getM lt k' l
  | [] => by
    rcases ko.tri k k' with h | h | h
    · simp [putM, getM, h]
    · exact absurd h.symm hne
    · simp [putM, getM, h]
  | p :: r => by
    rw [putM]
    split
    · rename_i h
      rw [getM, getM, get_put' ko hne v r]
    · rename_i h
      split
      · rename_i h2
        rw [getM]
        rcases ko.tri k k' with h3 | h3 | h3
        · rw [if_pos h3]
        · exact absurd h3.symm hne
        · rw [if_neg (by rw [ko.asym h3]; simp), if_pos h3, getM, if_neg (by rw [ko.asym (ko.trans h3 h2)]; simp), if_pos (ko.trans h3 h2)]
      · rename_i h2
        have e : p.1 = k := ko.eq (by simpa using h) (by simpa using h2)
        rw [getM, getM, e]
        rcases ko.tri k k' with h3 | h3 | h3
        · rw [if_pos h3, if_pos h3]
        · exact absurd h3.symm hne
        · rw [if_neg (by rw [ko.asym h3]; simp), if_pos h3, if_neg (by rw [ko.asym h3]; simp), if_pos h3]
theorem get_above (ko : KO lt) {k : α} : ∀ {l : List (α × β)}, (∀ q ∈ l, lt k q.1 = true) → getM lt k l = none
  | [], _ => rfl
  | p :: r, h => by
    have := h p (List.mem_cons_self ..)
    rw [getM, if_neg (by rw [ko.asym this]; simp), if_pos this]
theorem get_del (ko : KO lt) (k : α) : ∀ {l : List (α × β)}, srtM lt l → getM lt k (delM lt k l) = none
  | [], _ => rfl
  | p :: r, hs => by
    have hs' := List.pairwise_cons.1 hs
    rw [delM]
    split
    · rename_i h
      rw [getM, if_pos h]
      exact get_del ko k hs'.2
    · rename_i h
      split
      · rename_i h2
        rw [getM, if_neg h, if_pos h2]
      · rename_i h2
        have e : p.1 = k := ko.eq (by simpa using h) (by simpa using h2)
        exact get_above ko fun q hq => by rw [← e]; exact hs'.1 q hq
theorem get_del' (ko : KO lt) {k k' : α} (hne : k' ≠ k) : ∀ {l : List (α × β)}, srtM lt l → getM lt k' (delM lt k l) = getM lt k' l
  | [], _ => rfl
  | p :: r, hs => by
    have hs' := List.pairwise_cons.1 hs
    rw [delM]
    split
    · rename_i h
      rw [getM, getM, get_del' ko hne hs'.2]
    · rename_i h
      split
      · rfl
      · rename_i h2
        have e : p.1 = k := ko.eq (by simpa using h) (by simpa using h2)
        rw [getM, e]
        rcases ko.tri k k' with h3 | h3 | h3
        · rw [if_pos h3]
        · exact absurd h3.symm hne
        · rw [if_neg (by rw [ko.asym h3]; simp), if_pos h3]
          exact get_above ko fun q hq => ko.trans h3 (by rw [← e]; exact hs'.1 q hq)
theorem mem_put {k : α} {v : β} : ∀ {l : List (α × β)} {q : α × β}, q ∈ putM lt k v l → q = (k, v) ∨ q ∈ l
  | [], q, h => .inl (by simpa [putM] using h)
  | p :: r, q, h => by
    rw [putM] at h
    split at h
    · rcases List.mem_cons.1 h with rfl | h
      · exact .inr (List.mem_cons_self ..)
      · exact (mem_put h).imp_right (List.mem_cons_of_mem _)
    · split at h
      · rcases List.mem_cons.1 h with rfl | h
        · exact .inl rfl
        · exact .inr h
      · rcases List.mem_cons.1 h with rfl | h
        · exact .inl rfl
        · exact .inr (List.mem_cons_of_mem _ h)
theorem mem_del {k : α} : ∀ {l : List (α × β)} {q : α × β}, q ∈ delM lt k l → q ∈ l
  | [], q, h => h
  | p :: r, q, h => by
    rw [delM] at h
    split at h
    · rcases List.mem_cons.1 h with rfl | h
      · exact List.mem_cons_self ..
      · exact List.mem_cons_of_mem _ (mem_del h)
    · split at h
      · exact h
      · exact List.mem_cons_of_mem _ h
theorem srt_put (ko : KO lt) (k : α) (v : β) : ∀ {l : List (α × β)}, srtM lt l → srtM lt (putM lt k v l)
  | [], _ => List.pairwise_singleton ..
  | p :: r, hs => by
    have hs' := List.pairwise_cons.1 hs
    rw [putM]
    split
    · rename_i h
      refine List.pairwise_cons.2 ⟨fun q hq => ?_, srt_put ko k v hs'.2⟩
      rcases mem_put hq with rfl | hq
      · exact h
      · exact hs'.1 q hq
    · rename_i h
      split
      · rename_i h2
        refine List.pairwise_cons.2 ⟨fun q hq => ?_, hs⟩
        rcases List.mem_cons.1 hq with rfl | hq
        · exact h2
        · exact ko.trans h2 (hs'.1 q hq)
      · rename_i h2
        have e : p.1 = k := ko.eq (by simpa using h) (by simpa using h2)
        exact List.pairwise_cons.2 ⟨fun q hq => by rw [← e]; exact hs'.1 q hq, hs'.2⟩
theorem srt_del (k : α) : ∀ {l : List (α × β)}, srtM lt l → srtM lt (delM lt k l)
  | [], h => h
  | p :: r, hs => by
    have hs' := List.pairwise_cons.1 hs
    rw [delM]
    split
    · exact List.pairwise_cons.2 ⟨fun q hq => hs'.1 q (mem_del hq), srt_del k hs'.2⟩
    · split
      · exact hs
      · exact hs'.2
theorem get_mem (ko : KO lt) : ∀ {l : List (α × β)}, srtM lt l → ∀ {k : α} {v : β}, getM lt k l = some v ↔ (k, v) ∈ l
  | [], _, k, v => by simp [getM]
  | p :: r, hs, k, v => by
    have hs' := List.pairwise_cons.1 hs
    rw [getM]
    split
    · rename_i h
      rw [get_mem ko hs'.2, List.mem_cons]
      refine ⟨.inr, fun h' => h'.resolve_left fun e => ?_⟩
      rw [← e, ko.irr] at h
      cases h
    · rename_i h
      split
      · rename_i h2
        refine ⟨fun h' => (by cases h'), fun h' => ?_⟩
        rcases List.mem_cons.1 h' with e | h'
        · rw [← e, ko.irr] at h2; cases h2
        · have := ko.trans h2 (hs'.1 _ h')
          rw [ko.irr] at this
          cases this
      · rename_i h2
        have e : p.1 = k := ko.eq (by simpa using h) (by simpa using h2)
        rw [List.mem_cons, Option.some.injEq]
        constructor
        · rintro rfl
          exact .inl (by rw [← e])
        · rintro (h' | h')
          · rw [← h']
          · have := hs'.1 _ h'
            rw [e, ko.irr] at this
            cases this
theorem map_ext (ko : KO lt) : ∀ {l l' : List (α × β)}, srtM lt l → srtM lt l' → (∀ k, getM lt k l = getM lt k l') → l = l'
  | [], [], _, _, _ => rfl
  | [], p :: r, _, _, h => by have := h p.1; simp [getM, ko.irr] at this
  | p :: r, [], _, _, h => by have := h p.1; simp [getM, ko.irr] at this
  | p :: r, p' :: r', hs, hs', h => by
    have hc := List.pairwise_cons.1 hs
    have hc' := List.pairwise_cons.1 hs'
    have hp : p.1 = p'.1 := by
      rcases ko.tri p.1 p'.1 with h1 | h1 | h1
      · have := h p.1
        simp [getM, ko.irr, h1, ko.asym h1] at this
      · exact h1
      · have := h p'.1
        simp [getM, ko.irr, h1, ko.asym h1] at this
    have hv : p.2 = p'.2 := by
      have := h p.1
      simpa [getM, ko.irr, hp] using this
    have : p = p' := Prod.ext hp hv
    subst this
    congr 1
    refine map_ext ko hc.2 hc'.2 fun k => ?_
    have h1 := h k
    rw [getM, getM] at h1
    rcases ko.tri p.1 k with h2 | h2 | h2
    · simpa only [if_pos h2] using h1
    · subst h2
      rw [get_above ko hc.1, get_above ko hc'.1]
    · rw [get_above ko fun q hq => ko.trans h2 (hc.1 q hq), get_above ko fun q hq => ko.trans h2 (hc'.1 q hq)]
theorem put_len (ko : KO lt) (k : α) (v : β) : ∀ l : List (α × β), (putM lt k v l).length ≤ l.length + 1
  | [] => Nat.le_refl _
  | p :: r => by
    have := put_len ko k v r
    rw [putM]
    split
    · simp; exact this
    · split <;> simp
theorem del_len (k : α) : ∀ l : List (α × β), (delM lt k l).length ≤ l.length
  | [] => Nat.le_refl _
  | p :: r => by
    have := del_len k r
    rw [delM]
    split
    · simp; exact this
    · split <;> simp
end maps

/-! acts: a key, what it gets, or whether it goes -/
abbrev Act1 := ByteArray × Int × Bool
def stepV (k : ByteArray) (acc : Option Int) (x : Act1) : Option Int := if x.1 = k then (if x.2.2 = true then none else some x.2.1) else acc
def valO (h : List Act1) (k : ByteArray) : Option Int := h.foldl (stepV k) none
def stepM (m : List (ByteArray × Int)) (x : Act1) : List (ByteArray × Int) := if x.2.2 = true then delM ltS x.1 m else putM ltS x.1 x.2.1 m
def mapO (h : List Act1) : List (ByteArray × Int) := h.foldl stepM []
def putA (x : Act1) : Act1 := (x.1, x.2.1, false)
theorem valO_snoc (h : List Act1) (x : Act1) (k : ByteArray) : valO (h ++ [x]) k = stepV k (valO h k) x := by simp [valO, List.foldl_append]
theorem mapO_snoc (h : List Act1) (x : Act1) : mapO (h ++ [x]) = stepM (mapO h) x := by simp [mapO, List.foldl_append]
theorem mapO_take {h : List Act1} {i : Nat} (hi : i < h.length) : mapO (h.take (i + 1)) = stepM (mapO (h.take i)) h[i] := by rw [List.take_succ_eq_append_getElem hi, mapO_snoc]
theorem skipV {k : ByteArray} : ∀ {h : List Act1} {acc : Option Int}, (∀ x ∈ h, x.1 ≠ k) → h.foldl (stepV k) acc = acc
  | [], _, _ => rfl
  | x :: r, acc, h => by
    rw [List.foldl_cons, stepV, if_neg (h x (List.mem_cons_self ..))]
    exact skipV fun y hy => h y (List.mem_cons_of_mem _ hy)
theorem valO_none {h : List Act1} {k : ByteArray} (hn : ∀ x ∈ h, x.1 ≠ k) : valO h k = none := skipV hn
theorem valO_at {h : List Act1} {k : ByteArray} {m : Nat} (hm : m < h.length) (hk : h[m].1 = k) (hn : ∀ j (hj : j < h.length), m < j → h[j].1 ≠ k) : valO h k = if h[m].2.2 = true then none else some h[m].2.1 := by
  have e : h = h.take m ++ h[m] :: h.drop (m + 1) := by rw [← List.drop_eq_getElem_cons hm, List.take_append_drop]
  unfold valO
  conv => lhs; rw [e]
  rw [List.foldl_append, List.foldl_cons, skipV, stepV, if_pos hk]
  intro x hx
  obtain ⟨j, hj, rfl⟩ := List.getElem_of_mem hx
  rw [List.getElem_drop]
  rw [List.length_drop] at hj
  exact hn _ (by omega) (by omega)
theorem mapO_spec (h : List Act1) : srtM ltS (mapO h) ∧ ∀ k, getM ltS k (mapO h) = valO h k := by
  suffices ∀ n, n = h.length → srtM ltS (mapO h) ∧ ∀ k, getM ltS k (mapO h) = valO h k from this _ rfl
  intro n
  induction n generalizing h with
  | zero => intro hn; have : h = [] := List.eq_nil_of_length_eq_zero hn.symm; subst this; exact ⟨List.Pairwise.nil, fun k => rfl⟩
  | succ n ih =>
    intro hn
    have hne : h ≠ [] := fun e => by subst e; simp at hn
    obtain ⟨h1, x, rfl⟩ : ∃ h1 x, h = h1 ++ [x] := ⟨h.dropLast, h.getLast hne, (List.dropLast_concat_getLast hne).symm⟩
    obtain ⟨i1, i2⟩ := ih h1 (by simp at hn; omega)
    rw [mapO_snoc]
    unfold stepM
    split
    · rename_i hg
      refine ⟨srt_del _ i1, fun k => ?_⟩
      rw [valO_snoc, stepV]
      split
      · rename_i hk
        subst hk
        exact get_del koS _ i1
      · rename_i hk
        rw [get_del' koS (fun e => hk e.symm) i1, i2]
    · rename_i hg
      refine ⟨srt_put koS _ _ i1, fun k => ?_⟩
      rw [valO_snoc, stepV]
      split
      · rename_i hk
        subst hk
        exact get_put koS _ _ _
      · rename_i hk
        rw [get_put' koS (fun e => hk e.symm), i2]
theorem mapO_len (h : List Act1) : (mapO h).length ≤ h.length := by
  suffices ∀ i, i ≤ h.length → (mapO (h.take i)).length ≤ i by have := this _ (Nat.le_refl _); rwa [List.take_length] at this
  intro i
  induction i with
  | zero => intro _; simp [mapO]
  | succ i ih =>
    intro hi
    have := ih (by omega)
    rw [mapO_take (by omega)]
    unfold stepM
    split
    · exact Nat.le_trans (del_len _ _) (by omega)
    · exact Nat.le_trans (put_len koS _ _ _) (by omega)
end Go.Proofs.Yteffgknclbcpjaa
