/- What is proved: of a right tree's leaves the least entry, the least key, and what is below a key. Conditions: none. -/
import Derived.Test.YtailblpjmgabjaaUb
namespace Go.Proofs.Ytailblpjmgabjaa
open Go.RowKit
set_option linter.unusedVariables false
set_option linter.unusedSimpArgs false
theorem candE_iff {t : Tr8} {d : Nat} (h : rightT (d + 1) t = true) {i : Nat} (hi : i ≤ t.es.length) {j : Nat} (hj : j < t.es.length) : candE (t.es.take i) ([], t.es[j]) = true ↔ i ≤ j := by
  unfold candE
  simp only [List.length_nil, decide_true, Bool.true_and]
  rcases Nat.eq_zero_or_pos i with rfl | h0
  · simp
  · have hg : (t.es.take i).getLast? = some (t.es[i - 1]'(by omega)) := by
      rw [List.getLast?_eq_getElem?, List.length_take, Nat.min_eq_left hi, List.getElem?_take_of_lt (by omega), List.getElem?_eq_getElem]
    rw [hg]
    constructor
    · intro hlt
      by_cases hij : i ≤ j
      · exact hij
      · exfalso
        simp only at hlt
        by_cases he : j = i - 1
        · subst he; rw [ltDot_irrefl] at hlt; cases hlt
        · have := ltDot_trans hlt (es_lt h (show j < i - 1 by omega) (by omega))
          rw [ltDot_irrefl] at this; cases this
    · intro hij
      exact es_lt h (by omega) hj
theorem selE_eq {d : Nat} {t : Tr8} {l : List Leaf8} {i : Nat} (h : rightT (d + 1) t = true) (hl : LvT l t) (hi : i ≤ t.es.length) : (selS (candE (t.es.take i)) ltE l).map (·.2) = t.es[i]? := by
  have sp := selS_spec (c := candE (t.es.take i)) (lt := ltE) (fun a => ltDot_irrefl _) (fun a b d h1 h2 => ltDot_trans h1 h2) l
  have hc : ∀ x, candE (t.es.take i) x = true → x.1 = [] := fun x hx => by
    unfold candE at hx
    simp only [Bool.and_eq_true, decide_eq_true_eq] at hx
    exact List.eq_nil_of_length_eq_zero hx.1
  have hm : ∀ j (hj : j < t.es.length), (([], t.es[j]) : Leaf8) ∈ l := fun j hj => (hl _).2 (mem_below.2 (.inl ⟨rfl, List.getElem_mem hj⟩))
  cases ho : selS (candE (t.es.take i)) ltE l with
  | none =>
    by_cases hil : i < t.es.length
    · have := sp.2 ho _ (hm i hil)
      rw [(candE_iff h hi hil).2 (Nat.le_refl _)] at this
      cases this
    · rw [List.getElem?_eq_none (by omega)]; rfl
  | some b =>
    obtain ⟨h1, h2, h3⟩ := sp.1 b ho
    have hb := hc b h2
    obtain ⟨p, e⟩ := b
    simp only at hb
    subst hb
    rcases mem_below.1 ((hl _).1 h1) with ⟨_, hes⟩ | ⟨y, _, ps, hp, _⟩
    · obtain ⟨j, hj, rfl⟩ := List.getElem_of_mem hes
      have hij := (candE_iff h hi hj).1 h2
      have h4 := h3 _ (hm i (by omega)) ((candE_iff h hi (by omega)).2 (Nat.le_refl _))
      have : i = j := by
        by_cases hlt : i < j
        · have := es_lt h hlt hj
          unfold ltE at h4
          rw [this] at h4; cases h4
        · omega
      subst this
      rw [List.getElem?_eq_getElem hj]; rfl
    · cases hp
def lastK (ks : List (ByteArray × Tr8)) : Nat → ByteArray
  | 0 => ⟨#[]⟩
  | i + 1 => match ks[i]? with | some x => x.1 | none => ⟨#[]⟩
theorem ba_len (k : ByteArray) : k.toList.length = k.size := by rw [Go.Lib.toList_data]; rfl
theorem nil_str : (⟨#[]⟩ : ByteArray).toList = [] := by rw [Go.Lib.toList_data]
theorem key_pos {k : ByteArray} (h : okKey k = true) : 0 < k.toList.length := by
  unfold okKey at h
  simp only [Bool.and_eq_true, decide_eq_true_eq] at h
  rw [ba_len]
  omega
theorem lastK_lt {t : Tr8} {d : Nat} (h : rightT (d + 1) t = true) {i : Nat} (hi : i ≤ t.ks.length) {j : Nat} (hj : j < t.ks.length) : Op.bytesLess (lastK t.ks i).toList t.ks[j].1.toList = true ↔ i ≤ j := by
  cases i with
  | zero =>
    have := key_pos (rightT_good h hj).1
    simp only [Nat.zero_le, iff_true, lastK, nil_str]
    cases hk : t.ks[j].1.toList with
    | nil => rw [hk] at this; cases this
    | cons a b => rfl
  | succ i =>
    simp only [lastK]
    rw [List.getElem?_eq_getElem (show i < t.ks.length by omega)]
    constructor
    · intro hlt
      by_cases hij : i + 1 ≤ j
      · exact hij
      · exfalso
        simp only at hlt
        by_cases he : j = i
        · subst he; rw [bl_irrefl] at hlt; cases hlt
        · have := bl_trans hlt (ks_lt h (show j < i by omega) (by omega))
          rw [bl_irrefl] at this; cases this
    · intro hij
      exact ks_lt h (by omega) hj
theorem selK_eq {d : Nat} {t : Tr8} {l : List Leaf8} {i : Nat} (h : rightT (d + 1) t = true) (hl : LvT l t) (hi : i ≤ t.ks.length) : (selS (candK (lastK t.ks i)) ltK l).map headK = (t.ks[i]?).map (·.1) := by
  have sp := selS_spec (c := candK (lastK t.ks i)) (lt := ltK) (fun a => bl_irrefl _) (fun a b d h1 h2 => bl_trans h1 h2) l
  have hm : ∀ j (hj : j < t.ks.length), ∃ x ∈ l, headK x = t.ks[j].1 ∧ candK (lastK t.ks i) x = Op.bytesLess (lastK t.ks i).toList t.ks[j].1.toList := fun j hj => by
    obtain ⟨_, _, h1, h2⟩ := rightT_good h hj
    obtain ⟨x, hx⟩ := leaf_some d _ h2 h1
    exact ⟨(t.ks[j].1 :: x.1, x.2), (hl _).2 (mem_below.2 (.inr ⟨t.ks[j], List.getElem_mem hj, x.1, rfl, hx⟩)), rfl, by simp [candK, headK]⟩
  cases ho : selS (candK (lastK t.ks i)) ltK l with
  | none =>
    by_cases hil : i < t.ks.length
    · obtain ⟨x, hx, h1, h2⟩ := hm i hil
      have := sp.2 ho x hx
      rw [h2, (lastK_lt h hi hil).2 (Nat.le_refl _)] at this
      cases this
    · rw [List.getElem?_eq_none (by omega)]; rfl
  | some b =>
    obtain ⟨h1, h2, h3⟩ := sp.1 b ho
    unfold candK at h2
    simp only [Bool.and_eq_true, decide_eq_true_eq] at h2
    rcases mem_below.1 ((hl _).1 h1) with ⟨hp, _⟩ | ⟨y, hy, ps, hp, hps⟩
    · rw [hp] at h2; exact absurd h2.1 (by decide)
    · obtain ⟨j, hj, rfl⟩ := List.getElem_of_mem hy
      have hb : headK b = t.ks[j].1 := by unfold headK; rw [hp]; rfl
      rw [hb] at h2
      have hij := (lastK_lt h hi hj).1 h2.2
      obtain ⟨x, hx, g1, g2⟩ := hm i (by omega)
      have h4 := h3 x hx (by rw [g2]; exact (lastK_lt h hi (by omega)).2 (Nat.le_refl _))
      have : i = j := by
        by_cases hlt : i < j
        · have := ks_lt h hlt hj
          unfold ltK at h4
          rw [g1, hb, this] at h4; cases h4
        · omega
      subst this
      rw [List.getElem?_eq_getElem hj, Option.map_some, Option.map_some, hb]
theorem mem_und {key : ByteArray} {l : List Leaf8} {x : Leaf8} : x ∈ undL key l ↔ (key :: x.1, x.2) ∈ l := by
  unfold undL
  rw [List.mem_filterMap]
  constructor
  · rintro ⟨y, hy, h⟩
    unfold undX at h
    split at h
    · cases h
    · rename_i p ps hp
      split at h
      · rename_i hk
        have : p = key := bytes_eq (by simpa [eqKey] using hk)
        subst this
        cases h
        rw [← hp]
        exact hy
      · cases h
  · intro h
    exact ⟨_, h, by simp [undX, eqKey]⟩
theorem ks_inj {d : Nat} {t : Tr8} (h : rightT (d + 1) t = true) {i j : Nat} (hi : i < t.ks.length) (hj : j < t.ks.length) (he : t.ks[i].1 = t.ks[j].1) : i = j := by
  rcases Nat.lt_trichotomy i j with hlt | rfl | hlt
  · have := ks_lt h hlt hj
    rw [he, bl_irrefl] at this; cases this
  · rfl
  · have := ks_lt h hlt hi
    rw [he, bl_irrefl] at this; cases this
theorem lvT_und {d : Nat} {t : Tr8} {l : List Leaf8} (h : rightT (d + 1) t = true) (hl : LvT l t) {i : Nat} (hi : i < t.ks.length) : LvT (undL t.ks[i].1 l) t.ks[i].2 := fun x => by
  rw [mem_und, hl, mem_below]
  constructor
  · rintro (⟨h1, _⟩ | ⟨y, hy, ps, h1, h2⟩)
    · cases h1
    · obtain ⟨j, hj, rfl⟩ := List.getElem_of_mem hy
      simp only [List.cons.injEq] at h1
      obtain rfl := ks_inj h hi hj h1.1
      rw [← h1.2] at h2
      exact h2
  · intro hx
    exact .inr ⟨t.ks[i], List.getElem_mem hi, x.1, rfl, hx⟩
theorem lvT_no {t : Tr8} {l : List Leaf8} (hl : LvT l t) {key : ByteArray} (h : ∀ y ∈ t.ks, ¬ y.1 = key) : undL key l = [] := by
  refine List.eq_nil_iff_forall_not_mem.2 fun x hx => ?_
  rw [mem_und, hl, mem_below] at hx
  rcases hx with ⟨h1, _⟩ | ⟨y, hy, ps, h1, _⟩
  · cases h1
  · simp only [List.cons.injEq] at h1
    exact h y hy h1.1.symm
theorem lvT_nil {t : Tr8} (hl : LvT [] t) {d : Nat} (h : rightT d t = true) : t = .mk [] [] := by
  cases he : emptyT t with
  | true =>
    unfold emptyT at he
    simp only [Bool.and_eq_true, decide_eq_true_eq] at he
    cases t with
    | mk es ks =>
      simp only [Tr8.es, Tr8.ks] at he
      rw [he.1, List.eq_nil_of_length_eq_zero he.2]
  | false =>
    obtain ⟨x, hx⟩ := leaf_some d t h he
    cases (hl x).2 hx
end Go.Proofs.Ytailblpjmgabjaa
