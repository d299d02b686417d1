/- What is proved: a contract may take an own slice with its capacity, and may answer one. Conditions: none. -/
import Derived.Test.YtlghgdgpbnlpmaaGreatAx
import Derived.Test.YtlghgdgpbnlpmaaGreatEn
import Derived.Lib.Strings
import Derived.Lib.Overlaps
namespace Go.Proofs.YtlghgdgpbnlpmaaGreat
open Go.RowKit
set_option linter.unusedVariables false
/-- an own slice that is handed in, told with its capacity -/
theorem AFn.dn {P : Program} {f : FuncId} {args : List AV} {h : List AP} {El k n : Nat} {rows : List (List AV)} {R : AV → List AP → Prop} (hcall : ∀ (args : Array Value) w, (callFunc f args).run P w = .ok (.enter f args) w) (hn : 0 < n)
    (hC : ∀ C, n ≤ C → AFn P f (.sub 0 k 0 n C true :: args) (.row 0 El k rows :: h) R) : AFn P f (.own 0 n :: args) (.row 0 El k rows :: h) R := by
  intro E vs L hnx hvs hh
  have hvs0 := hvs
  simp only [VL] at hvs0
  obtain ⟨u, us, rfl, hu, hus⟩ := hvs0
  simp only [V] at hu
  obtain ⟨h1, h2, a, c, h3, h4, h5⟩ := hu
  obtain ⟨b, rfl⟩ := h4 hn
  refine hC c h5 E (u :: us) L hnx ?_ hh
  simp only [VL]
  refine ⟨u, us, rfl, ?_, hus⟩
  simp only [V]
  exact ⟨h1, b, n, some ⟨b, 0, none⟩, h2.symm.trans h3, by rw [Nat.sub_zero]; exact h3, by omega, fun _ => by simp [Addr.add], fun _ => ⟨trivial, rfl, h2⟩⟩
/-- a part that is the whole, told as an own slice -/
def upA : AV → AV
  | .sub id _ _ n _ true => .own id n
  | v => v
theorem upA_V {E : Env} {v : AV} {u : Value} (h : V E v u) : V E (upA v) u := by
  unfold upA
  split
  · simp only [V] at h ⊢
    obtain ⟨h1, b, N, a, h2, h3, h4, h5, h6⟩ := h
    obtain ⟨h7, h8, h9⟩ := h6 trivial
    subst h7; subst h8
    exact ⟨h1, h9, some ⟨b, 0, none⟩, _, h9.trans h2, fun _ => ⟨b, rfl⟩, by omega⟩
  · exact h
theorem AFn.up {P : Program} {f : FuncId} {args : List AV} {h : List AP} {R R' : AV → List AP → Prop} (ha : AFn P f args h R) (hR : ∀ r h', R r h' → R' (upA r) h') : AFn P f args h R' := by
  intro E vs L hnx hvs hh
  obtain ⟨h1, h2⟩ := ha E vs L hnx hvs hh
  refine ⟨h1, fun w hs => (h2 w hs).mono ?_⟩
  rintro x w' ⟨v, H', O, hx, hse, E', r, h', rfl, hE, hv, hh', hn, hr0⟩
  exact ⟨v, E'.H, O, hx, hse, E', upA r, h', rfl, hE, upA_V hv, hh', hn, hR r h' hr0⟩
/-- a nil answer counts as an own one -/
theorem AFn.nilV {P : Program} {f : FuncId} {args : List AV} {El k : Nat} {R R' : AV → List AP → Prop} (h : AFn P f args [] R') (hR : ∀ r h', R' r h' → R r h' ∨ (r = .nils ∧ h' = [] ∧ R (.own 0 0) [.row 0 El k []])) : AFn P f args [] R := by
  intro E vs L hnx hvs hh
  obtain ⟨h1, h2⟩ := h E vs L hnx hvs hh
  refine ⟨h1, fun w hs => (h2 w hs).mono ?_⟩
  rintro x w' ⟨v, H', O, hx, hse, E', r, h', rfl, hE, hv, hh', hn, hr0⟩
  rcases hR r h' hr0 with hr | ⟨rfl, rfl, hr⟩
  · exact ⟨v, E'.H, O, hx, hse, E', r, h', rfl, hE, hv, hh', hn, hr⟩
  · simp only [VH] at hh'
    subst hh'
    simp only [topN, List.length_nil] at hn
    simp only [V] at hv
    subst hv
    have hg := E'.addG_at (.slice none 0 0)
    rw [hn] at hg
    refine ⟨_, E'.H, _, hx, hse.nilrow El k, E'.addG (.slice none 0 0), .own 0 0, [.row 0 El k []], rfl, hE.trans (E'.addG_le _), ?_, ?_, ?_, hr⟩
    · simp only [V]
      exact ⟨by simp only [Env.addG]; omega, hg.symm, none, 0, rfl, fun h => absurd h (by decide), Nat.le_refl _⟩
    · simp only [VH, VP]
      exact ⟨_, _, rfl, ⟨by simp only [Env.addG]; omega, ⟨none, 0, by rw [hg]; rfl⟩, [], by rw [hg], by simp only [VLL]⟩, rfl⟩
    · simp only [Env.addG, hn]; rfl
end Go.Proofs.YtlghgdgpbnlpmaaGreat
/- What is proved: plain sorted maps: what putting, taking away and asking do. Conditions: none. -/
namespace Go.Proofs.YtlghgdgpbnlpmaaGreat
open Go.RowKit
set_option linter.unusedVariables false
set_option linter.unusedSimpArgs false
/-! orders -/
structure KO {α : Type} (lt : α → α → Bool) : Prop where
  irr : ∀ a, lt a a = false
  trans : ∀ {a b c : α}, lt a b = true → lt b c = true → lt a c = true
  tri : ∀ a b, lt a b = true ∨ a = b ∨ lt b a = true
theorem KO.asym {α : Type} {lt : α → α → Bool} (h : KO lt) {a b : α} (hab : lt a b = true) : lt b a = false := by
  cases hb : lt b a
  · rfl
  · have := h.trans hab hb
    rw [h.irr] at this
    cases this
theorem KO.eq {α : Type} {lt : α → α → Bool} (h : KO lt) {a b : α} (h1 : lt a b = false) (h2 : lt b a = false) : a = b := by
  rcases h.tri a b with h3 | h3 | h3
  · rw [h1] at h3; cases h3
  · exact h3
  · rw [h2] at h3; cases h3
def ltI (a b : Int) : Bool := decide (a < b)
theorem koI : KO ltI := ⟨fun a => by simp [ltI], fun h1 h2 => by simp only [ltI, decide_eq_true_eq] at *; omega, fun a b => by simp only [ltI, decide_eq_true_eq]; omega⟩

/-! maps -/
section maps
variable {α β : Type}
def cmpO (lt : α → α → Bool) (a b : α) : Int := if lt a b = true then -1 else if lt b a = true then 1 else 0
def srtM (lt : α → α → Bool) (l : List (α × β)) : Prop := l.Pairwise (fun a b => lt a.1 b.1 = true)
/-- where a key stands, or would -/
def posM (lt : α → α → Bool) (k : α) : List (α × β) → Nat
  | [] => 0
  | p :: r => if lt p.1 k = true then posM lt k r + 1 else 0
def getM (lt : α → α → Bool) (k : α) : List (α × β) → Option β
  | [] => none
  | p :: r => if lt p.1 k = true then getM lt k r else if lt k p.1 = true then none else some p.2
def putM (lt : α → α → Bool) (k : α) (v : β) : List (α × β) → List (α × β)
  | [] => [(k, v)]
  | p :: r => if lt p.1 k = true then p :: putM lt k v r else if lt k p.1 = true then (k, v) :: p :: r else (k, v) :: r
def delM (lt : α → α → Bool) (k : α) : List (α × β) → List (α × β)
  | [] => []
  | p :: r => if lt p.1 k = true then p :: delM lt k r else if lt k p.1 = true then p :: r else r
variable {lt : α → α → Bool}
theorem posM_le (k : α) : ∀ l : List (α × β), posM lt k l ≤ l.length
  | [] => Nat.le_refl _
  | p :: r => by
    rw [posM]
    have := posM_le k r
    split <;> simp <;> omega
theorem posM_lt {k : α} : ∀ {l : List (α × β)} {j : Nat} (hj : j < posM lt k l) (hl : j < l.length), lt l[j].1 k = true
  | [], j, hj, hl => by simp at hl
  | p :: r, j, hj, hl => by
    rw [posM] at hj
    split at hj
    · rename_i h
      cases j with
      | zero => exact h
      | succ j => exact posM_lt (l := r) (by omega) (by simpa using hl)
    · omega
theorem posM_at {k : α} : ∀ {l : List (α × β)} (hl : posM lt k l < l.length), lt (l[posM lt k l]).1 k = false
  | [], hl => by simp [posM] at hl
  | p :: r, hl => by
    by_cases h : lt p.1 k = true
    · have e : posM lt k (p :: r) = posM lt k r + 1 := by rw [posM, if_pos h]
      have hl' : posM lt k r < r.length := by rw [e] at hl; simpa using hl
      have := posM_at hl'
      simp only [e]
      simpa using this
    · have e : posM lt k (p :: r) = 0 := by rw [posM, if_neg h]
      simp only [e]
      simpa using h
/-- a place below which all is less, and from which on nothing is -/
theorem posM_uniq {k : α} {l : List (α × β)} {i : Nat} (hi : i ≤ l.length) (h1 : ∀ j (hj : j < l.length), j < i → lt l[j].1 k = true) (h2 : ∀ j (hj : j < l.length), i ≤ j → lt l[j].1 k = false) : posM lt k l = i := by
  rcases Nat.lt_trichotomy (posM lt k l) i with h | h | h
  · have h3 := posM_at (lt := lt) (k := k) (l := l) (by omega)
    rw [h1 _ _ h] at h3
    cases h3
  · exact h
  · have hl := posM_le (lt := lt) k l
    have h3 := posM_lt (lt := lt) (k := k) (l := l) h (by omega)
    rw [h2 i (by omega) (Nat.le_refl _)] at h3
    cases h3
theorem posM_ge (ko : KO lt) {k : α} {l : List (α × β)} (hs : srtM lt l) {j : Nat} (hj : j < l.length) (hp : posM lt k l ≤ j) : lt l[j].1 k = false := by
  have h0 := posM_at (lt := lt) (k := k) (l := l) (by omega)
  rcases Nat.lt_or_eq_of_le hp with h | h
  · cases h2 : lt l[j].1 k
    · rfl
    · have := List.pairwise_iff_getElem.1 hs _ j (by omega) hj h
      rw [ko.trans this h2] at h0
      cases h0
  · subst h; exact h0
/-- is the key there? -/
def fndM (lt : α → α → Bool) (k : α) (l : List (α × β)) : Bool := (getM lt k l).isSome
theorem get_fnd {k : α} : ∀ {l : List (α × β)} (hl : posM lt k l < l.length), getM lt k l = if lt k (l[posM lt k l]).1 = true then none else some (l[posM lt k l]).2
  | [], hl => by simp [posM] at hl
  | p :: r, hl => by
    by_cases h : lt p.1 k = true
    · have e : posM lt k (p :: r) = posM lt k r + 1 := by rw [posM, if_pos h]
      have hl' : posM lt k r < r.length := by rw [e] at hl; simpa using hl
      rw [getM, if_pos h, get_fnd hl']
      simp only [e]
      simp
    · have e : posM lt k (p :: r) = 0 := by rw [posM, if_neg h]
      rw [getM, if_neg h]
      simp only [e]
      simp
theorem get_end {k : α} : ∀ {l : List (α × β)} (hl : l.length ≤ posM lt k l), getM lt k l = none
  | [], hl => rfl
  | p :: r, hl => by
    rw [posM] at hl
    split at hl
    · rename_i h
      rw [getM, if_pos h]
      exact get_end (by simpa using hl)
    · simp at hl
theorem fnd_iff (ko : KO lt) {k : α} {l : List (α × β)} : fndM lt k l = true ↔ ∃ h : posM lt k l < l.length, (l[posM lt k l]).1 = k := by
  unfold fndM
  by_cases hl : posM lt k l < l.length
  · rw [get_fnd hl]
    have h0 := posM_at hl
    constructor
    · intro h
      refine ⟨hl, ko.eq h0 ?_⟩
      split at h
      · cases h
      · rename_i h1; simpa using h1
    · rintro ⟨_, h⟩
      rw [h, ko.irr]
      rfl
  · rw [get_end (by omega)]
    exact ⟨fun h => (by cases h), fun ⟨h, _⟩ => absurd h hl⟩
theorem fnd_get {k : α} {l : List (α × β)} (h : fndM lt k l = true) (hl : posM lt k l < l.length) : getM lt k l = some (l[posM lt k l]).2 := by
  have h1 := get_fnd hl
  unfold fndM at h
  rw [h1] at h ⊢
  split at h
  · cases h
  · rename_i h2
    rw [if_neg h2]
theorem put_no {k : α} {v : β} : ∀ {l : List (α × β)}, fndM lt k l = false → putM lt k v l = l.take (posM lt k l) ++ (k, v) :: l.drop (posM lt k l)
  | [], _ => rfl
  | p :: r, h => by
    unfold fndM at h
    rw [getM] at h
    rw [putM, posM]
    split
    · rename_i h1
      rw [if_pos h1] at h
      rw [put_no (l := r) h]
      simp
    · rename_i h1
      rw [if_neg h1] at h
      split
      · simp
      · rename_i h2
        rw [if_neg h2] at h
        cases h
theorem put_yes {k : α} {v : β} : ∀ {l : List (α × β)}, fndM lt k l = true → putM lt k v l = l.set (posM lt k l) (k, v)
  | [], h => by cases h
  | p :: r, h => by
    unfold fndM at h
    rw [getM] at h
    rw [putM, posM]
    split
    · rename_i h1
      rw [if_pos h1] at h
      rw [put_yes (l := r) h]
      simp
    · rename_i h1
      rw [if_neg h1] at h
      split
      · rename_i h2
        rw [if_pos h2] at h
        cases h
      · simp
theorem del_no {k : α} : ∀ {l : List (α × β)}, fndM lt k l = false → delM lt k l = l
  | [], _ => rfl
  | p :: r, h => by
    unfold fndM at h
    rw [getM] at h
    rw [delM]
    split
    · rename_i h1
      rw [if_pos h1] at h
      rw [del_no (l := r) h]
    · rename_i h1
      rw [if_neg h1] at h
      split
      · rfl
      · rename_i h2
        rw [if_neg h2] at h
        cases h
theorem del_yes {k : α} : ∀ {l : List (α × β)}, fndM lt k l = true → delM lt k l = l.take (posM lt k l) ++ l.drop (posM lt k l + 1)
  | [], h => by cases h
  | p :: r, h => by
    unfold fndM at h
    rw [getM] at h
    rw [delM, posM]
    split
    · rename_i h1
      rw [if_pos h1] at h
      rw [del_yes (l := r) h]
      simp
    · rename_i h1
      rw [if_neg h1] at h
      split
      · rename_i h2
        rw [if_pos h2] at h
        cases h
      · simp
theorem get_put (ko : KO lt) (k : α) (v : β) : ∀ l : List (α × β), getM lt k (putM lt k v l) = some v
  | [] => by simp [putM, getM, ko.irr]
  | p :: r => by
    rw [putM]
    split
    · rename_i h
      rw [getM, if_pos h]
      exact get_put ko k v r
    · split <;> simp [getM, ko.irr]
theorem get_above (ko : KO lt) {k : α} : ∀ {l : List (α × β)}, (∀ q ∈ l, lt k q.1 = true) → getM lt k l = none
  | [], _ => rfl
  | p :: r, h => by
    have := h p (List.mem_cons_self ..)
    rw [getM, if_neg (by rw [ko.asym this]; simp), if_pos this]
theorem get_del (ko : KO lt) (k : α) : ∀ {l : List (α × β)}, srtM lt l → getM lt k (delM lt k l) = none
  | [], _ => rfl
  | p :: r, hs => by
    have hs' := List.pairwise_cons.1 hs
    rw [delM]
    split
    · rename_i h
      rw [getM, if_pos h]
      exact get_del ko k hs'.2
    · rename_i h
      split
      · rename_i h2
        rw [getM, if_neg h, if_pos h2]
      · rename_i h2
        have e : p.1 = k := ko.eq (by simpa using h) (by simpa using h2)
        exact get_above ko fun q hq => by rw [← e]; exact hs'.1 q hq
theorem mem_put {k : α} {v : β} : ∀ {l : List (α × β)} {q : α × β}, q ∈ putM lt k v l → q = (k, v) ∨ q ∈ l
  | [], q, h => .inl (by simpa [putM] using h)
  | p :: r, q, h => by
    rw [putM] at h
    split at h
    · rcases List.mem_cons.1 h with rfl | h
      · exact .inr (List.mem_cons_self ..)
      · exact (mem_put h).imp_right (List.mem_cons_of_mem _)
    · split at h
      · rcases List.mem_cons.1 h with rfl | h
        · exact .inl rfl
        · exact .inr h
      · rcases List.mem_cons.1 h with rfl | h
        · exact .inl rfl
        · exact .inr (List.mem_cons_of_mem _ h)
theorem mem_del {k : α} : ∀ {l : List (α × β)} {q : α × β}, q ∈ delM lt k l → q ∈ l
  | [], q, h => h
  | p :: r, q, h => by
    rw [delM] at h
    split at h
    · rcases List.mem_cons.1 h with rfl | h
      · exact List.mem_cons_self ..
      · exact List.mem_cons_of_mem _ (mem_del h)
    · split at h
      · exact h
      · exact List.mem_cons_of_mem _ h
theorem srt_put (ko : KO lt) (k : α) (v : β) : ∀ {l : List (α × β)}, srtM lt l → srtM lt (putM lt k v l)
  | [], _ => List.pairwise_singleton ..
  | p :: r, hs => by
    have hs' := List.pairwise_cons.1 hs
    rw [putM]
    split
    · rename_i h
      refine List.pairwise_cons.2 ⟨fun q hq => ?_, srt_put ko k v hs'.2⟩
      rcases mem_put hq with rfl | hq
      · exact h
      · exact hs'.1 q hq
    · rename_i h
      split
      · rename_i h2
        refine List.pairwise_cons.2 ⟨fun q hq => ?_, hs⟩
        rcases List.mem_cons.1 hq with rfl | hq
        · exact h2
        · exact ko.trans h2 (hs'.1 q hq)
      · rename_i h2
        have e : p.1 = k := ko.eq (by simpa using h) (by simpa using h2)
        exact List.pairwise_cons.2 ⟨fun q hq => by rw [← e]; exact hs'.1 q hq, hs'.2⟩
theorem srt_del (k : α) : ∀ {l : List (α × β)}, srtM lt l → srtM lt (delM lt k l)
  | [], h => h
  | p :: r, hs => by
    have hs' := List.pairwise_cons.1 hs
    rw [delM]
    split
    · exact List.pairwise_cons.2 ⟨fun q hq => hs'.1 q (mem_del hq), srt_del k hs'.2⟩
    · split
      · exact hs
      · exact hs'.2
theorem get_mem (ko : KO lt) : ∀ {l : List (α × β)}, srtM lt l → ∀ {k : α} {v : β}, getM lt k l = some v ↔ (k, v) ∈ l
  | [], _, k, v => by simp [getM]
  | p :: r, hs, k, v => by
    have hs' := List.pairwise_cons.1 hs
    rw [getM]
    split
    · rename_i h
      rw [get_mem ko hs'.2, List.mem_cons]
      refine ⟨.inr, fun h' => h'.resolve_left fun e => ?_⟩
      rw [← e, ko.irr] at h
      cases h
    · rename_i h
      split
      · rename_i h2
        refine ⟨fun h' => (by cases h'), fun h' => ?_⟩
        rcases List.mem_cons.1 h' with e | h'
        · rw [← e, ko.irr] at h2; cases h2
        · have := ko.trans h2 (hs'.1 _ h')
          rw [ko.irr] at this
          cases this
      · rename_i h2
        have e : p.1 = k := ko.eq (by simpa using h) (by simpa using h2)
        rw [List.mem_cons, Option.some.injEq]
        constructor
        · rintro rfl
          exact .inl (by rw [← e])
        · rintro (h' | h')
          · rw [← h']
          · have := hs'.1 _ h'
            rw [e, ko.irr] at this
            cases this
theorem map_ext (ko : KO lt) : ∀ {l l' : List (α × β)}, srtM lt l → srtM lt l' → (∀ k, getM lt k l = getM lt k l') → l = l'
  | [], [], _, _, _ => rfl
  | [], p :: r, _, _, h => by have := h p.1; simp [getM, ko.irr] at this
  | p :: r, [], _, _, h => by have := h p.1; simp [getM, ko.irr] at this
  | p :: r, p' :: r', hs, hs', h => by
    have hc := List.pairwise_cons.1 hs
    have hc' := List.pairwise_cons.1 hs'
    have hp : p.1 = p'.1 := by
      rcases ko.tri p.1 p'.1 with h1 | h1 | h1
      · have := h p.1
        simp [getM, ko.irr, h1, ko.asym h1] at this
      · exact h1
      · have := h p'.1
        simp [getM, ko.irr, h1, ko.asym h1] at this
    have hv : p.2 = p'.2 := by
      have := h p.1
      simpa [getM, ko.irr, hp] using this
    have : p = p' := Prod.ext hp hv
    subst this
    congr 1
    refine map_ext ko hc.2 hc'.2 fun k => ?_
    have h1 := h k
    rw [getM, getM] at h1
    rcases ko.tri p.1 k with h2 | h2 | h2
    · simpa only [if_pos h2] using h1
    · subst h2
      rw [get_above ko hc.1, get_above ko hc'.1]
    · rw [get_above ko fun q hq => ko.trans h2 (hc.1 q hq), get_above ko fun q hq => ko.trans h2 (hc'.1 q hq)]
theorem put_len (ko : KO lt) (k : α) (v : β) : ∀ l : List (α × β), (putM lt k v l).length ≤ l.length + 1
  | [] => Nat.le_refl _
  | p :: r => by
    have := put_len ko k v r
    rw [putM]
    split
    · simp; exact this
    · split <;> simp
theorem del_len (k : α) : ∀ l : List (α × β), (delM lt k l).length ≤ l.length
  | [] => Nat.le_refl _
  | p :: r => by
    have := del_len k r
    rw [delM]
    split
    · simp; exact this
    · split <;> simp
end maps

/-! acts: a key, what it gets, or whether it goes -/
end Go.Proofs.YtlghgdgpbnlpmaaGreat
/- What is proved: what cmp.Compare and the search for a key answer. Conditions: none. -/
namespace Go.Proofs.YtlghgdgpbnlpmaaGreat
open Go.RowKit
set_option linter.unusedVariables false
set_option linter.unusedSimpArgs false
set_option maxRecDepth 100000
set_option maxHeartbeats 16000000
theorem cmpO_neg {α : Type} {lt : α → α → Bool} {a b : α} : cmpO lt a b < 0 ↔ lt a b = true := by
  unfold cmpO
  split
  · rename_i h; exact ⟨fun _ => h, fun _ => by decide⟩
  · rename_i h
    split
    · exact ⟨fun h' => absurd h' (by decide), fun h' => absurd h' h⟩
    · exact ⟨fun h' => absurd h' (by decide), fun h' => absurd h' h⟩
theorem fnd_cmp {α β : Type} {lt : α → α → Bool} {k : α} {l : List (α × β)} (hl : posM lt k l < l.length) : fndM lt k l = decide (cmpO lt (l[posM lt k l]).1 k = 0) := by
  have h0 := posM_at hl
  unfold fndM
  rw [get_fnd hl]
  unfold cmpO
  cases h : lt k (l[posM lt k l]).1 <;> simp [h0]
end Go.Proofs.YtlghgdgpbnlpmaaGreat
/- What is proved: what slices.Insert, Delete and Clone do to slices of pairs that are the caller's own. Conditions: none. -/
namespace Go.Proofs.YtlghgdgpbnlpmaaGreat
open Go.RowKit
set_option linter.unusedVariables false
set_option linter.unusedSimpArgs false
set_option maxRecDepth 100000
set_option maxHeartbeats 16000000
theorem rows_take {kk : Nat} {R : List (List AV)} (h : RowsOk kk R) (i : Nat) : RowsOk kk (R.take i) := fun r hr => h r (List.mem_of_mem_take hr)
theorem rows_drop {kk : Nat} {R : List (List AV)} (h : RowsOk kk R) (i : Nat) : RowsOk kk (R.drop i) := fun r hr => h r (List.mem_of_mem_drop hr)
/-- what moved up leaves room -/
theorem up_src {α : Type} {R : List α} {J : α} {i : Nat} (hi : i < R.length) : (((R ++ [J]).drop i).take (R.length + 1 - i)).take (R.length - i) = R.drop i := by
  rw [List.take_take, List.drop_append_of_le_length (by omega), List.take_append_of_le_length (by rw [List.length_drop]; omega)]
  exact List.take_of_length_le (by rw [List.length_drop]; omega)
theorem up_all {α : Type} {R : List α} {J x : α} {i : Nat} (hi : i < R.length) : (((R ++ [J]).take (i + 1) ++ R.drop i ++ (R ++ [J]).drop (i + 1 + (R.length - i))).take i ++ [x] ++ ((R ++ [J]).take (i + 1) ++ R.drop i ++ (R ++ [J]).drop (i + 1 + (R.length - i))).drop (i + 1)) = R.take i ++ x :: R.drop i := by
  have e1 : (R ++ [J]).drop (i + 1 + (R.length - i)) = [] := List.drop_of_length_le (by simp; omega)
  have e2 : (R ++ [J]).take (i + 1) = R.take (i + 1) := List.take_append_of_le_length (by omega)
  have e3 : (R.take (i + 1)).length = i + 1 := by rw [List.length_take]; omega
  rw [e1, e2, List.append_nil]
  have e4 : (R.take (i + 1) ++ R.drop i).take i = R.take i := by
    rw [List.take_append_of_le_length (by omega), List.take_take, Nat.min_eq_left (by omega)]
  have e5 : (R.take (i + 1) ++ R.drop i).drop (i + 1) = R.drop i := List.drop_left' e3
  rw [e4, e5]
  simp
theorem grow_all {α : Type} {R Z : List α} {x : α} {i : Nat} (hi : i < R.length) (hZ : Z.length = R.length + 1 - i) :
    (((R.take i ++ Z).take i ++ [x] ++ (R.take i ++ Z).drop (i + 1)).take (i + 1) ++ ((R.drop i).take (R.length - i)).take (R.length - i) ++ ((R.take i ++ Z).take i ++ [x] ++ (R.take i ++ Z).drop (i + 1)).drop (i + 1 + (R.length - i))) = R.take i ++ x :: R.drop i := by
  have e0 : (R.take i).length = i := by rw [List.length_take]; omega
  have e1 : (R.take i ++ Z).take i = R.take i := List.take_left' e0
  have e2 : (R.take i ++ [x]).length = i + 1 := by rw [List.length_append, e0]; rfl
  have e4 : (R.drop i).take (R.length - i) = R.drop i := List.take_of_length_le (by rw [List.length_drop]; omega)
  have e5 : (R.take i ++ [x] ++ (R.take i ++ Z).drop (i + 1)).take (i + 1) = R.take i ++ [x] := List.take_left' e2
  rw [e1, e5, e4, e4]
  have e3 : (R.take i ++ [x] ++ (R.take i ++ Z).drop (i + 1)).drop (i + 1 + (R.length - i)) = [] := List.drop_of_length_le (by
    simp only [List.length_append, List.length_drop, e0, List.length_singleton, hZ]; omega)
  rw [e3]
  simp
end Go.Proofs.YtlghgdgpbnlpmaaGreat
