/- What is proved: plain contexts: a list of (center, from, to). Conditions: none. -/
import Derived.Test.YtklionofaknjcaaSp
namespace Go.Proofs.Ytklionofaknjcaa
set_option linter.unusedVariables false
set_option linter.unusedSimpArgs false
abbrev Spn := Int × Int × Int
def spE (x : Spn) : List AV := [i64 x.1, i64 x.2.1, i64 x.2.2]
def part (c : List Spn) (d : Int) : List (Int × Int) := (c.filter fun x => decide (x.1 = d)).map fun x => x.2
theorem part_nil (d : Int) : part [] d = [] := rfl
theorem part_take {c : List Spn} {i : Nat} (h : i < c.length) (d : Int) : part (c.take (i + 1)) d = part (c.take i) d ++ (if c[i].1 = d then [c[i].2] else []) := by
  unfold part
  rw [← take_snoc h, List.filter_append, List.map_append]
  congr 1
  by_cases hd : c[i].1 = d <;> simp [hd]
theorem part_len (c : List Spn) (d : Int) : (part c d).length ≤ c.length := by
  unfold part; rw [List.length_map]; exact List.length_filter_le _ _
theorem part_take_len (c : List Spn) (i : Nat) (d : Int) : (part (c.take i) d).length ≤ i := Nat.le_trans (part_len _ _) (by simp; omega)
/-- do the centers rise, and may they be? -/
def goodS (c : List Spn) (i : Nat) : Bool :=
  match c[i]? with
  | some x => decide (0 ≤ x.1) && decide (x.1 < 4) && (decide (i = 0) || (match c[i - 1]? with | some y => decide (y.1 ≤ x.1) | none => false))
  | none => false
def risesL (c : List Spn) : Bool := (List.range c.length).all (goodS c)
def rightC (c : List Spn) : Bool := risesL c && (rightL (part c 0) && (rightL (part c 1) && (rightL (part c 2) && rightL (part c 3))))
theorem goodS_iff {c : List Spn} {i : Nat} (h : i < c.length) : goodS c i = true ↔ (0 ≤ c[i].1 ∧ c[i].1 < 4) ∧ (i = 0 ∨ c[i - 1].1 ≤ c[i].1) := by
  unfold goodS
  rw [List.getElem?_eq_getElem h, List.getElem?_eq_getElem (show i - 1 < c.length by omega)]
  simp
theorem risesL_true {c : List Spn} (h : ∀ i, i < c.length → goodS c i = true) : risesL c = true := by
  unfold risesL; rw [List.all_eq_true]; intro i hi; exact h i (List.mem_range.1 hi)
theorem risesL_false {c : List Spn} {i : Nat} (hi : i < c.length) (h : goodS c i = false) : risesL c = false := by
  unfold risesL; rw [List.all_eq_false]; exact ⟨i, List.mem_range.2 hi, by rw [h]; decide⟩
theorem risesL_at {c : List Spn} (h : risesL c = true) {i : Nat} (hi : i < c.length) : goodS c i = true := by
  unfold risesL at h; exact List.all_eq_true.1 h i (List.mem_range.2 hi)
theorem goodS_iff' {c : List Spn} {i : Nat} (h : i < c.length) : goodS c i = false ↔ ¬ ((0 ≤ c[i].1 ∧ c[i].1 < 4) ∧ (i = 0 ∨ c[i - 1].1 ≤ c[i].1)) := by rw [← goodS_iff h]; simp
def lastS (c : List Spn) (i : Nat) : Int := match i with | 0 => 0 | j + 1 => match c[j]? with | some x => x.1 | none => 0
theorem lastS_succ {c : List Spn} {i : Nat} (h : i < c.length) : lastS c (i + 1) = c[i].1 := by simp only [lastS, List.getElem?_eq_getElem h]
theorem lastS_le {c : List Spn} {i : Nat} (h : i < c.length) (hg : ∀ j, j < i → goodS c j = true) : 0 ≤ lastS c i ∧ (goodS c i = true ↔ lastS c i ≤ c[i].1 ∧ c[i].1 < 4) := by
  rw [goodS_iff h]
  cases i with
  | zero => exact ⟨Int.le_refl _, fun h => h.1, fun h => ⟨h, .inl rfl⟩⟩
  | succ j =>
    have h1 := (goodS_iff (show j < c.length by omega)).1 (hg j (by omega))
    rw [lastS_succ (by omega)]
    simp only [Nat.add_sub_cancel]
    omega
theorem rightC_no {c : List Spn} {i : Nat} (h : i < c.length) (hg : goodS c i = false) : rightC c = false := by
  unfold rightC; rw [risesL_false h hg]; rfl
/-- the centers may be, and rise -/
def RisesP (c : List Spn) : Prop := (∀ x ∈ c, 0 ≤ x.1 ∧ x.1 < 4) ∧ c.Pairwise (fun x y => x.1 ≤ y.1)
theorem rises_le {c : List Spn} (h : risesL c = true) : ∀ (k i : Nat) (hi : i + k < c.length), c[i].1 ≤ c[i + k].1
  | 0, i, hi => Int.le_refl _
  | k + 1, i, hi => by
    have h1 := rises_le h k i (by omega)
    have h2 := ((goodS_iff (c := c) (i := i + (k + 1)) hi).1 (risesL_at h hi)).2
    rcases h2 with h2 | h2
    · omega
    · have e : i + (k + 1) - 1 = i + k := by omega
      simp only [e] at h2
      omega
theorem risesL_iff {c : List Spn} : risesL c = true ↔ RisesP c := by
  constructor
  · intro h
    refine ⟨fun x hx => ?_, ?_⟩
    · obtain ⟨i, hi, rfl⟩ := List.getElem_of_mem hx
      exact ((goodS_iff hi).1 (risesL_at h hi)).1
    · rw [List.pairwise_iff_getElem]
      intro i j hi hj hij
      have := rises_le h (j - i) i (by omega)
      simp only [show i + (j - i) = j by omega] at this
      exact this
  · intro h
    refine risesL_true fun i hi => (goodS_iff hi).2 ⟨h.1 _ (List.getElem_mem _), ?_⟩
    rcases Nat.eq_zero_or_pos i with h0 | h0
    · exact .inl h0
    · exact .inr (List.pairwise_iff_getElem.1 h.2 (i - 1) i (by omega) hi (by omega))
def spn (d : Int) (x : Int × Int) : Spn := (d, x)
/-- the parts of the four centers, one behind the other -/
def whole (p : Int → List (Int × Int)) : List Spn := (p 0).map (spn 0) ++ ((p 1).map (spn 1) ++ ((p 2).map (spn 2) ++ (p 3).map (spn 3)))
theorem part_map_eq (d : Int) (l : List (Int × Int)) : part (l.map (spn d)) d = l := by
  induction l with
  | nil => rfl
  | cons x l ih =>
    unfold part at ih ⊢
    simp only [List.map_cons, spn] at ih ⊢
    rw [List.filter_cons_of_pos (by simp), List.map_cons, ih]
theorem part_map_ne {d e : Int} (h : d ≠ e) (l : List (Int × Int)) : part (l.map (spn d)) e = [] := by
  induction l with
  | nil => rfl
  | cons x l ih =>
    unfold part at ih ⊢
    simp only [List.map_cons, spn] at ih ⊢
    rw [List.filter_cons_of_neg (by simpa using h), ih]
theorem part_append (a b : List Spn) (d : Int) : part (a ++ b) d = part a d ++ part b d := by unfold part; rw [List.filter_append, List.map_append]
theorem part_whole (p : Int → List (Int × Int)) {d : Int} (h0 : 0 ≤ d) (h4 : d < 4) : part (whole p) d = p d := by
  unfold whole
  rw [part_append, part_append, part_append]
  have : d = 0 ∨ d = 1 ∨ d = 2 ∨ d = 3 := by omega
  rcases this with rfl | rfl | rfl | rfl
  · rw [part_map_eq, part_map_ne (by decide), part_map_ne (by decide), part_map_ne (by decide)]; simp
  · rw [part_map_eq, part_map_ne (by decide), part_map_ne (by decide), part_map_ne (by decide)]; simp
  · rw [part_map_eq, part_map_ne (by decide), part_map_ne (by decide), part_map_ne (by decide)]; simp
  · rw [part_map_eq, part_map_ne (by decide), part_map_ne (by decide), part_map_ne (by decide)]; simp
theorem part_cons (x : Spn) (c : List Spn) (d : Int) : part (x :: c) d = (if x.1 = d then [x.2] else []) ++ part c d := by
  unfold part
  by_cases h : x.1 = d <;> simp [h]
theorem part_none {c : List Spn} {d : Int} (h : ∀ x ∈ c, x.1 ≠ d) : part c d = [] := by
  unfold part
  rw [List.map_eq_nil_iff, List.filter_eq_nil_iff]
  intro x hx; simpa using h x hx
theorem rises_whole (p : Int → List (Int × Int)) : RisesP (whole p) := by
  have hm : ∀ {d : Int} {l : List (Int × Int)} {x : Spn}, x ∈ l.map (spn d) → x.1 = d := by
    intro d l x hx
    obtain ⟨y, _, rfl⟩ := List.mem_map.1 hx
    rfl
  have hp : ∀ (d : Int) (l : List (Int × Int)), (l.map (spn d)).Pairwise (fun x y => x.1 ≤ y.1) := by
    intro d l
    rw [List.pairwise_map]
    exact List.pairwise_iff_getElem.2 fun _ _ _ _ _ => Int.le_refl _
  constructor
  · intro x hx
    simp only [whole, List.mem_append] at hx
    rcases hx with h | h | h | h <;> rw [hm h] <;> omega
  · unfold whole
    refine List.pairwise_append.2 ⟨hp _ _, List.pairwise_append.2 ⟨hp _ _, List.pairwise_append.2 ⟨hp _ _, hp _ _, ?_⟩, ?_⟩, ?_⟩ <;> intro x hx y hy <;> (try simp only [List.mem_append] at hy) <;> rw [hm hx]
    · rw [hm hy]; omega
    · rcases hy with h | h <;> rw [hm h] <;> omega
    · rcases hy with h | h | h <;> rw [hm h] <;> omega
theorem whole_part : ∀ {c : List Spn}, RisesP c → whole (part c) = c
  | [], _ => rfl
  | x :: c, h => by
    have hr : RisesP c := ⟨fun y hy => h.1 y (List.mem_cons_of_mem _ hy), (List.pairwise_cons.1 h.2).2⟩
    have ih := whole_part hr
    have hx := h.1 x (List.mem_cons_self ..)
    have hle := (List.pairwise_cons.1 h.2).1
    have hno : ∀ d : Int, d < x.1 → part c d = [] := fun d hd => part_none fun y hy e => by have := hle y hy; omega
    have hc : x.1 = 0 ∨ x.1 = 1 ∨ x.1 = 2 ∨ x.1 = 3 := by omega
    unfold whole at ih ⊢
    simp only [part_cons]
    obtain ⟨d, v⟩ := x
    dsimp only at hc hno ⊢
    rcases hc with rfl | rfl | rfl | rfl
    · simp only [if_pos, Int.reduceEq, if_false, List.nil_append, List.cons_append, List.map_cons, spn] at ih ⊢
      rw [ih]
    · simp only [hno 0 (by omega)] at ih ⊢
      simp only [Int.reduceEq, if_true, if_false, List.nil_append, List.cons_append, List.map_cons, List.map_nil, spn] at ih ⊢
      rw [ih]
    · simp only [hno 0 (by omega), hno 1 (by omega)] at ih ⊢
      simp only [Int.reduceEq, if_true, if_false, List.nil_append, List.cons_append, List.map_cons, List.map_nil, spn] at ih ⊢
      rw [ih]
    · simp only [hno 0 (by omega), hno 1 (by omega), hno 2 (by omega)] at ih ⊢
      simp only [Int.reduceEq, if_true, if_false, List.nil_append, List.cons_append, List.map_cons, List.map_nil, spn] at ih ⊢
      rw [ih]
theorem ctx_ext {a b : List Spn} (ha : RisesP a) (hb : RisesP b) (h : ∀ d : Int, 0 ≤ d → d < 4 → part a d = part b d) : a = b := by
  rw [← whole_part ha, ← whole_part hb]
  unfold whole
  rw [h 0 (by omega) (by omega), h 1 (by omega) (by omega), h 2 (by omega) (by omega), h 3 (by omega) (by omega)]
end Go.Proofs.Ytklionofaknjcaa
