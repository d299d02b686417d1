/- What is proved: plain contexts: a list of (center, from, to). Conditions: none. -/
import Derived.Test.YtlghgdgpbnlpmaaGreatMKa
import Derived.Test.YtlghgdgpbnlpmaaGreatMTb
import Derived.Test.YtlghgdgpbnlpmaaGreatMTa
import Derived.Test.YtlghgdgpbnlpmaaGreatMKc
namespace Go.Proofs.YtlghgdgpbnlpmaaGreat
set_option linter.unusedVariables false
set_option linter.unusedSimpArgs false
abbrev Spn := Int × Int × Int
def spE (x : Spn) : List AV := [i64 x.1, i64 x.2.1, i64 x.2.2]
def part (c : List Spn) (d : Int) : List (Int × Int) := (c.filter fun x => decide (x.1 = d)).map fun x => x.2
theorem part_take {c : List Spn} {i : Nat} (h : i < c.length) (d : Int) : part (c.take (i + 1)) d = part (c.take i) d ++ (if c[i].1 = d then [c[i].2] else []) := by
  unfold part
  rw [← take_snoc h, List.filter_append, List.map_append]
  congr 1
  by_cases hd : c[i].1 = d <;> simp [hd]
theorem part_len (c : List Spn) (d : Int) : (part c d).length ≤ c.length := by
  unfold part; rw [List.length_map]; exact List.length_filter_le _ _
theorem part_take_len (c : List Spn) (i : Nat) (d : Int) : (part (c.take i) d).length ≤ i := Nat.le_trans (part_len _ _) (by simp; omega)
/-- do the centers rise, and may they be? -/
def goodS (c : List Spn) (i : Nat) : Bool :=
  match c[i]? with
  | some x => decide (0 ≤ x.1) && decide (x.1 < 4) && (decide (i = 0) || (match c[i - 1]? with | some y => decide (y.1 ≤ x.1) | none => false))
  | none => false
def risesL (c : List Spn) : Bool := (List.range c.length).all (goodS c)
def rightC (c : List Spn) : Bool := risesL c && (rightL (part c 0) && (rightL (part c 1) && (rightL (part c 2) && rightL (part c 3))))
theorem goodS_iff {c : List Spn} {i : Nat} (h : i < c.length) : goodS c i = true ↔ (0 ≤ c[i].1 ∧ c[i].1 < 4) ∧ (i = 0 ∨ c[i - 1].1 ≤ c[i].1) := by
  unfold goodS
  rw [List.getElem?_eq_getElem h, List.getElem?_eq_getElem (show i - 1 < c.length by omega)]
  simp
theorem risesL_true {c : List Spn} (h : ∀ i, i < c.length → goodS c i = true) : risesL c = true := by
  unfold risesL; rw [List.all_eq_true]; intro i hi; exact h i (List.mem_range.1 hi)
theorem risesL_false {c : List Spn} {i : Nat} (hi : i < c.length) (h : goodS c i = false) : risesL c = false := by
  unfold risesL; rw [List.all_eq_false]; exact ⟨i, List.mem_range.2 hi, by rw [h]; decide⟩
theorem risesL_at {c : List Spn} (h : risesL c = true) {i : Nat} (hi : i < c.length) : goodS c i = true := by
  unfold risesL at h; exact List.all_eq_true.1 h i (List.mem_range.2 hi)
theorem goodS_iff' {c : List Spn} {i : Nat} (h : i < c.length) : goodS c i = false ↔ ¬ ((0 ≤ c[i].1 ∧ c[i].1 < 4) ∧ (i = 0 ∨ c[i - 1].1 ≤ c[i].1)) := by rw [← goodS_iff h]; simp
def lastS (c : List Spn) (i : Nat) : Int := match i with | 0 => 0 | j + 1 => match c[j]? with | some x => x.1 | none => 0
theorem lastS_succ {c : List Spn} {i : Nat} (h : i < c.length) : lastS c (i + 1) = c[i].1 := by simp only [lastS, List.getElem?_eq_getElem h]
theorem lastS_le {c : List Spn} {i : Nat} (h : i < c.length) (hg : ∀ j, j < i → goodS c j = true) : 0 ≤ lastS c i ∧ (goodS c i = true ↔ lastS c i ≤ c[i].1 ∧ c[i].1 < 4) := by
  rw [goodS_iff h]
  cases i with
  | zero => exact ⟨Int.le_refl _, fun h => h.1, fun h => ⟨h, .inl rfl⟩⟩
  | succ j =>
    have h1 := (goodS_iff (show j < c.length by omega)).1 (hg j (by omega))
    rw [lastS_succ (by omega)]
    simp only [Nat.add_sub_cancel]
    omega
theorem rightC_no {c : List Spn} {i : Nat} (h : i < c.length) (hg : goodS c i = false) : rightC c = false := by
  unfold rightC; rw [risesL_false h hg]; rfl
/-- the centers may be, and rise -/
def RisesP (c : List Spn) : Prop := (∀ x ∈ c, 0 ≤ x.1 ∧ x.1 < 4) ∧ c.Pairwise (fun x y => x.1 ≤ y.1)
theorem rises_le {c : List Spn} (h : risesL c = true) : ∀ (k i : Nat) (hi : i + k < c.length), c[i].1 ≤ c[i + k].1
  | 0, i, hi => Int.le_refl _
  | k + 1, i, hi => by
    have h1 := rises_le h k i (by omega)
    have h2 := ((goodS_iff (c := c) (i := i + (k + 1)) hi).1 (risesL_at h hi)).2
    rcases h2 with h2 | h2
    · omega
    · have e : i + (k + 1) - 1 = i + k := by omega
      simp only [e] at h2
      omega
theorem risesL_iff {c : List Spn} : risesL c = true ↔ RisesP c := by
  constructor
  · intro h
    refine ⟨fun x hx => ?_, ?_⟩
    · obtain ⟨i, hi, rfl⟩ := List.getElem_of_mem hx
      exact ((goodS_iff hi).1 (risesL_at h hi)).1
    · rw [List.pairwise_iff_getElem]
      intro i j hi hj hij
      have := rises_le h (j - i) i (by omega)
      simp only [show i + (j - i) = j by omega] at this
      exact this
  · intro h
    refine risesL_true fun i hi => (goodS_iff hi).2 ⟨h.1 _ (List.getElem_mem _), ?_⟩
    rcases Nat.eq_zero_or_pos i with h0 | h0
    · exact .inl h0
    · exact .inr (List.pairwise_iff_getElem.1 h.2 (i - 1) i (by omega) hi (by omega))
def spn (d : Int) (x : Int × Int) : Spn := (d, x)
/-- the parts of the four centers, one behind the other -/
def whole (p : Int → List (Int × Int)) : List Spn := (p 0).map (spn 0) ++ ((p 1).map (spn 1) ++ ((p 2).map (spn 2) ++ (p 3).map (spn 3)))
theorem part_map_eq (d : Int) (l : List (Int × Int)) : part (l.map (spn d)) d = l := by
  induction l with
  | nil => rfl
  | cons x l ih =>
    unfold part at ih ⊢
    simp only [List.map_cons, spn] at ih ⊢
    rw [List.filter_cons_of_pos (by simp), List.map_cons, ih]
theorem part_map_ne {d e : Int} (h : d ≠ e) (l : List (Int × Int)) : part (l.map (spn d)) e = [] := by
  induction l with
  | nil => rfl
  | cons x l ih =>
    unfold part at ih ⊢
    simp only [List.map_cons, spn] at ih ⊢
    rw [List.filter_cons_of_neg (by simpa using h), ih]
theorem part_append (a b : List Spn) (d : Int) : part (a ++ b) d = part a d ++ part b d := by unfold part; rw [List.filter_append, List.map_append]
theorem part_whole (p : Int → List (Int × Int)) {d : Int} (h0 : 0 ≤ d) (h4 : d < 4) : part (whole p) d = p d := by
  unfold whole
  rw [part_append, part_append, part_append]
  have : d = 0 ∨ d = 1 ∨ d = 2 ∨ d = 3 := by omega
  rcases this with rfl | rfl | rfl | rfl
  · rw [part_map_eq, part_map_ne (by decide), part_map_ne (by decide), part_map_ne (by decide)]; simp
  · rw [part_map_eq, part_map_ne (by decide), part_map_ne (by decide), part_map_ne (by decide)]; simp
  · rw [part_map_eq, part_map_ne (by decide), part_map_ne (by decide), part_map_ne (by decide)]; simp
  · rw [part_map_eq, part_map_ne (by decide), part_map_ne (by decide), part_map_ne (by decide)]; simp
theorem part_cons (x : Spn) (c : List Spn) (d : Int) : part (x :: c) d = (if x.1 = d then [x.2] else []) ++ part c d := by
  unfold part
  by_cases h : x.1 = d <;> simp [h]
theorem part_none {c : List Spn} {d : Int} (h : ∀ x ∈ c, x.1 ≠ d) : part c d = [] := by
  unfold part
  rw [List.map_eq_nil_iff, List.filter_eq_nil_iff]
  intro x hx; simpa using h x hx
theorem rises_whole (p : Int → List (Int × Int)) : RisesP (whole p) := by
  have hm : ∀ {d : Int} {l : List (Int × Int)} {x : Spn}, x ∈ l.map (spn d) → x.1 = d := by
    intro d l x hx
    obtain ⟨y, _, rfl⟩ := List.mem_map.1 hx
    rfl
  have hp : ∀ (d : Int) (l : List (Int × Int)), (l.map (spn d)).Pairwise (fun x y => x.1 ≤ y.1) := by
    intro d l
    rw [List.pairwise_map]
    exact List.pairwise_iff_getElem.2 fun _ _ _ _ _ => Int.le_refl _
  constructor
  · intro x hx
    simp only [whole, List.mem_append] at hx
    rcases hx with h | h | h | h <;> rw [hm h] <;> omega
  · unfold whole
    refine List.pairwise_append.2 ⟨hp _ _, List.pairwise_append.2 ⟨hp _ _, List.pairwise_append.2 ⟨hp _ _, hp _ _, ?_⟩, ?_⟩, ?_⟩ <;> intro x hx y hy <;> (try simp only [List.mem_append] at hy) <;> rw [hm hx]
    · rw [hm hy]; omega
    · rcases hy with h | h <;> rw [hm h] <;> omega
    · rcases hy with h | h | h <;> rw [hm h] <;> omega
theorem whole_part : ∀ {c : List Spn}, RisesP c → whole (part c) = c
  | [], _ => rfl
  | x :: c, h => by
    have hr : RisesP c := ⟨fun y hy => h.1 y (List.mem_cons_of_mem _ hy), (List.pairwise_cons.1 h.2).2⟩
    have ih := whole_part hr
    have hx := h.1 x (List.mem_cons_self ..)
    have hle := (List.pairwise_cons.1 h.2).1
    have hno : ∀ d : Int, d < x.1 → part c d = [] := fun d hd => part_none fun y hy e => by have := hle y hy; omega
    have hc : x.1 = 0 ∨ x.1 = 1 ∨ x.1 = 2 ∨ x.1 = 3 := by omega
    unfold whole at ih ⊢
    simp only [part_cons]
    obtain ⟨d, v⟩ := x
    dsimp only at hc hno ⊢
    rcases hc with rfl | rfl | rfl | rfl
    · simp only [if_pos, Int.reduceEq, if_false, List.nil_append, List.cons_append, List.map_cons, spn] at ih ⊢
      rw [ih]
    · simp only [hno 0 (by omega)] at ih ⊢
      simp only [Int.reduceEq, if_true, if_false, List.nil_append, List.cons_append, List.map_cons, List.map_nil, spn] at ih ⊢
      rw [ih]
    · simp only [hno 0 (by omega), hno 1 (by omega)] at ih ⊢
      simp only [Int.reduceEq, if_true, if_false, List.nil_append, List.cons_append, List.map_cons, List.map_nil, spn] at ih ⊢
      rw [ih]
    · simp only [hno 0 (by omega), hno 1 (by omega), hno 2 (by omega)] at ih ⊢
      simp only [Int.reduceEq, if_true, if_false, List.nil_append, List.cons_append, List.map_cons, List.map_nil, spn] at ih ⊢
      rw [ih]
theorem ctx_ext {a b : List Spn} (ha : RisesP a) (hb : RisesP b) (h : ∀ d : Int, 0 ≤ d → d < 4 → part a d = part b d) : a = b := by
  rw [← whole_part ha, ← whole_part hb]
  unfold whole
  rw [h 0 (by omega) (by omega), h 1 (by omega) (by omega), h 2 (by omega) (by omega), h 3 (by omega) (by omega)]
end Go.Proofs.YtlghgdgpbnlpmaaGreat
/- What is proved: what apart of package context answers. Conditions: none. -/
namespace Go.Proofs.YtlghgdgpbnlpmaaGreat
open Go.RowKit
set_option linter.unusedVariables false
set_option linter.unusedSimpArgs false
set_option maxRecDepth 100000
set_option maxHeartbeats 16000000
def noPartsE : AV := .agg [.lst 0 [], .lst 0 [], .lst 0 [], .lst 0 []]
def partsE (c : List Spn) : AV := .agg [lstE runE (part c 0), lstE runE (part c 1), lstE runE (part c 2), lstE runE (part c 3)]
def rowE (id : Nat) (l : List (Int × Int)) : AP := .row id 209 2 (l.map runE)
theorem apart_a (c : List Spn) (hn : c.length ≤ 1000000) : AFnP Tryz.prog 133 [lstE spE c] (if rightC c = true then .tup [partsE c, .bool true] else .tup [noPartsE, .bool false]) := by
  refine afnp_in ty_ok Tryz.call133 Tryz.func133 rfl rfl (by decide +kernel) ?_
  (try conv=>whnf)<;>repeat'((first|exact sNo|refine sT ?_|refine sF ?_|((first|refine sD ?_ ?_|refine sE ?_ ?_|refine sN ?_ ?_|refine sG ?_ ?_)<;>intro ht<;>(first|(cases ht;done)|skip))|refine wr ?_|refine ix ?_|refine ati ?_|refine row ?_|refine app ?_|refine dr ?_|refine VBs.own ?_|fail)<;>(try conv=>whnf))
  refine VLp.mk ⟨[.cell 1 0 209 2, .cell 1 1 209 2, .cell 1 2 209 2, .cell 1 3 209 2], [], [2, 4, 5, 12], fun k vs h => ∃ i : Nat, vs = [.op 0 0, .op 1 0, i64 (lastS c i), i64 i] ∧ h = [.blk 0 [.nils, .nils, .nils, .nils] 192, .blk 1 [.own 2 (part (c.take i) 0).length, .own 3 (part (c.take i) 1).length, .own 4 (part (c.take i) 2).length, .own 5 (part (c.take i) 3).length] 192, rowE 2 (part (c.take i) 0), rowE 3 (part (c.take i) 1), rowE 4 (part (c.take i) 2), rowE 5 (part (c.take i) 3)] ∧ i ≤ c.length ∧ k = c.length - i ∧ ∀ j, j < i → goodS c j = true, c.length, ?_⟩
  conv => whnf
  refine ⟨⟨0, rfl, rfl, by omega, by omega, by omega⟩, ?_⟩
  rintro k vs h ⟨i, rfl, rfl, hi, rfl, hg⟩
  have l0 := part_take_len c i 0
  have l1 := part_take_len c i 1
  have l2 := part_take_len c i 2
  have l3 := part_take_len c i 3
  by_cases hin : i < c.length
  · obtain ⟨hl0, hiff⟩ := lastS_le hin hg
    have hls := lastS_succ hin
    cases hok : goodS c i
    · have hno := rightC_no hin hok
      rw [hok] at hiff
      simp only [Bool.false_eq_true, false_iff] at hiff
      rw [if_neg (by rw [hno]; decide)]
      generalize part (c.take i) 0 = p0 at *
      generalize part (c.take i) 1 = p1 at *
      generalize part (c.take i) 2 = p2 at *
      generalize part (c.take i) 3 = p3 at *
      generalize lastS c i = la at *
      by_cases hlt : c[i].1 < la
      · (try conv=>whnf)<;>repeat'((first|exact sNo|refine sT ?_|refine sF ?_|((first|refine sD ?_ ?_|refine sE ?_ ?_|refine sN ?_ ?_|refine sG ?_ ?_)<;>intro ht<;>(first|(cases ht;done)|skip))|refine wr ?_|refine ix ?_|refine ati ?_|refine row ?_|refine app ?_|refine dr ?_|refine VBs.own ?_|fail)<;>(try conv=>whnf))
        all_goals rfl
      · (try conv=>whnf)<;>repeat'((first|exact sNo|refine sT ?_|refine sF ?_|((first|refine sD ?_ ?_|refine sE ?_ ?_|refine sN ?_ ?_|refine sG ?_ ?_)<;>intro ht<;>(first|(cases ht;done)|skip))|refine wr ?_|refine ix ?_|refine ati ?_|refine row ?_|refine app ?_|refine dr ?_|refine VBs.own ?_|fail)<;>(try conv=>whnf))
        all_goals rfl
    · obtain ⟨k1, k2⟩ := hiff.1 hok
      have hg2 : ∀ j, j < i + 1 → goodS c j = true := fun j hj => by rcases Nat.lt_succ_iff_lt_or_eq.1 hj with h | rfl; exact hg j h; exact hok
      have e0 := part_take hin 0
      have e1 := part_take hin 1
      have e2 := part_take hin 2
      have e3 := part_take hin 3
      clear hiff
      generalize part (c.take i) 0 = p0 at *
      generalize part (c.take i) 1 = p1 at *
      generalize part (c.take i) 2 = p2 at *
      generalize part (c.take i) 3 = p3 at *
      generalize lastS c i = la at *
      have hcase : c[i].1 = ((0 : Nat) : Int) ∨ c[i].1 = ((1 : Nat) : Int) ∨ c[i].1 = ((2 : Nat) : Int) ∨ c[i].1 = ((3 : Nat) : Int) := by omega
      rcases hcase with hd | hd | hd | hd
      all_goals
        rw [hd] at e0 e1 e2 e3
        simp at e0 e1 e2 e3
        (try conv=>whnf)<;>repeat'((first|(refine drx [13] [1] [6] ?_;(try conv=>whnf);(fail_if_success (show False)))|exact sNo|refine sT ?_|refine sF ?_|((first|refine sD ?_ ?_|refine sE ?_ ?_|refine sN ?_ ?_|refine sG ?_ ?_)<;>intro ht<;>(first|(cases ht;done)|skip))|refine wr ?_|refine ix ?_|refine ati ?_|refine row ?_|refine app ?_|refine dr ?_|refine VBs.own ?_|fail)<;>(try conv=>whnf))
        exact VRd.mk rfl ⟨c.length - (i + 1), by omega, i + 1, by rw [hls]; rfl, by rw [e0, e1, e2, e3]; simp [rowE, runE], by omega, rfl, hg2⟩
  · obtain rfl : i = c.length := by omega
    rw [List.take_length] at l0 l1 l2 l3 ⊢
    have hr : risesL c = true := risesL_true fun j hj => hg j hj
    have hc : rightC c = (rightL (part c 0) && (rightL (part c 1) && (rightL (part c 2) && rightL (part c 3)))) := by unfold rightC; rw [hr, Bool.true_and]
    rw [hc]
    unfold partsE
    clear hc hr hg
    generalize part c 0 = p0 at *
    generalize part c 1 = p1 at *
    generalize part c 2 = p2 at *
    generalize part c 3 = p3 at *
    generalize lastS c c.length = la at *
    have r0 := right_a_s p0 (by omega)
    have r1 := right_a_s p1 (by omega)
    have r2 := right_a_s p2 (by omega)
    have r3 := right_a_s p3 (by omega)
    generalize rightL p0 = b0 at *
    generalize rightL p1 = b1 at *
    generalize rightL p2 = b2 at *
    generalize rightL p3 = b3 at *
    (try conv=>whnf)<;>repeat'((first|exact sNo|refine sT ?_|refine sF ?_|((first|refine sD ?_ ?_|refine sE ?_ ?_|refine sN ?_ ?_|refine sG ?_ ?_)<;>intro ht<;>(first|(cases ht;done)|skip))|refine wr ?_|refine ix ?_|refine ati ?_|refine row ?_|refine app ?_|refine dr ?_|refine VBs.own ?_|fail)<;>(try conv=>whnf))
    refine VLp.mk ⟨[.frz [2, 3, 4, 5]], [2, 4], [44], fun k vs h => h = [.blk 0 [.nils, .nils, .nils, .nils] 192, .blk 1 [lstE runE p0, lstE runE p1, lstE runE p2, lstE runE p3] 192] ∧ ((vs = [i64 0] ∧ k = 4) ∨ (vs = [i64 1] ∧ k = 3 ∧ b0 = true) ∨ (vs = [i64 2] ∧ k = 2 ∧ b0 = true ∧ b1 = true) ∨ (vs = [i64 3] ∧ k = 1 ∧ b0 = true ∧ b1 = true ∧ b2 = true) ∨ (vs = [i64 4] ∧ k = 0 ∧ b0 = true ∧ b1 = true ∧ b2 = true ∧ b3 = true)), 4, ?_⟩
    conv => whnf
    refine ⟨⟨rfl, .inl ⟨rfl, rfl⟩⟩, ?_⟩
    rintro k vs h ⟨rfl, ⟨rfl, rfl⟩ | ⟨rfl, rfl, rfl⟩ | ⟨rfl, rfl, rfl, rfl⟩ | ⟨rfl, rfl, rfl, rfl, rfl⟩ | ⟨rfl, rfl, rfl, rfl, rfl, rfl⟩⟩
    · cases b0
      · (try conv=>whnf)<;>repeat'((first|exact sNo|refine sT ?_|refine sF ?_|((first|refine sD ?_ ?_|refine sE ?_ ?_|refine sN ?_ ?_|refine sG ?_ ?_)<;>intro ht<;>(first|(cases ht;done)|skip))|refine wr ?_|refine ix ?_|refine ati ?_|refine row ?_|refine app ?_|refine dr ?_|refine VBs.own ?_|refine cf r0 ?_|refine cg r0 ?_|refine cz r0 ?_|fail)<;>(try conv=>whnf))
        all_goals rfl
      · (try conv=>whnf)<;>repeat'((first|exact sNo|refine sT ?_|refine sF ?_|((first|refine sD ?_ ?_|refine sE ?_ ?_|refine sN ?_ ?_|refine sG ?_ ?_)<;>intro ht<;>(first|(cases ht;done)|skip))|refine wr ?_|refine ix ?_|refine ati ?_|refine row ?_|refine app ?_|refine dr ?_|refine VBs.own ?_|refine cf r0 ?_|refine cg r0 ?_|refine cz r0 ?_|fail)<;>(try conv=>whnf))
        all_goals exact VRd.mk rfl ⟨3, by omega, rfl, .inr (.inl ⟨rfl, rfl, rfl⟩)⟩
    · cases b1
      · (try conv=>whnf)<;>repeat'((first|exact sNo|refine sT ?_|refine sF ?_|((first|refine sD ?_ ?_|refine sE ?_ ?_|refine sN ?_ ?_|refine sG ?_ ?_)<;>intro ht<;>(first|(cases ht;done)|skip))|refine wr ?_|refine ix ?_|refine ati ?_|refine row ?_|refine app ?_|refine dr ?_|refine VBs.own ?_|refine cf r1 ?_|refine cg r1 ?_|refine cz r1 ?_|fail)<;>(try conv=>whnf))
        all_goals rfl
      · (try conv=>whnf)<;>repeat'((first|exact sNo|refine sT ?_|refine sF ?_|((first|refine sD ?_ ?_|refine sE ?_ ?_|refine sN ?_ ?_|refine sG ?_ ?_)<;>intro ht<;>(first|(cases ht;done)|skip))|refine wr ?_|refine ix ?_|refine ati ?_|refine row ?_|refine app ?_|refine dr ?_|refine VBs.own ?_|refine cf r1 ?_|refine cg r1 ?_|refine cz r1 ?_|fail)<;>(try conv=>whnf))
        all_goals exact VRd.mk rfl ⟨2, by omega, rfl, .inr (.inr (.inl ⟨rfl, rfl, rfl, rfl⟩))⟩
    · cases b2
      · (try conv=>whnf)<;>repeat'((first|exact sNo|refine sT ?_|refine sF ?_|((first|refine sD ?_ ?_|refine sE ?_ ?_|refine sN ?_ ?_|refine sG ?_ ?_)<;>intro ht<;>(first|(cases ht;done)|skip))|refine wr ?_|refine ix ?_|refine ati ?_|refine row ?_|refine app ?_|refine dr ?_|refine VBs.own ?_|refine cf r2 ?_|refine cg r2 ?_|refine cz r2 ?_|fail)<;>(try conv=>whnf))
        all_goals rfl
      · (try conv=>whnf)<;>repeat'((first|exact sNo|refine sT ?_|refine sF ?_|((first|refine sD ?_ ?_|refine sE ?_ ?_|refine sN ?_ ?_|refine sG ?_ ?_)<;>intro ht<;>(first|(cases ht;done)|skip))|refine wr ?_|refine ix ?_|refine ati ?_|refine row ?_|refine app ?_|refine dr ?_|refine VBs.own ?_|refine cf r2 ?_|refine cg r2 ?_|refine cz r2 ?_|fail)<;>(try conv=>whnf))
        all_goals exact VRd.mk rfl ⟨1, by omega, rfl, .inr (.inr (.inr (.inl ⟨rfl, rfl, rfl, rfl, rfl⟩)))⟩
    · cases b3
      · (try conv=>whnf)<;>repeat'((first|exact sNo|refine sT ?_|refine sF ?_|((first|refine sD ?_ ?_|refine sE ?_ ?_|refine sN ?_ ?_|refine sG ?_ ?_)<;>intro ht<;>(first|(cases ht;done)|skip))|refine wr ?_|refine ix ?_|refine ati ?_|refine row ?_|refine app ?_|refine dr ?_|refine VBs.own ?_|refine cf r3 ?_|refine cg r3 ?_|refine cz r3 ?_|fail)<;>(try conv=>whnf))
        all_goals rfl
      · (try conv=>whnf)<;>repeat'((first|exact sNo|refine sT ?_|refine sF ?_|((first|refine sD ?_ ?_|refine sE ?_ ?_|refine sN ?_ ?_|refine sG ?_ ?_)<;>intro ht<;>(first|(cases ht;done)|skip))|refine wr ?_|refine ix ?_|refine ati ?_|refine row ?_|refine app ?_|refine dr ?_|refine VBs.own ?_|refine cf r3 ?_|refine cg r3 ?_|refine cz r3 ?_|fail)<;>(try conv=>whnf))
        all_goals exact VRd.mk rfl ⟨0, by omega, rfl, .inr (.inr (.inr (.inr ⟨rfl, rfl, rfl, rfl, rfl, rfl⟩)))⟩
    · (try conv=>whnf)<;>repeat'((first|exact sNo|refine sT ?_|refine sF ?_|((first|refine sD ?_ ?_|refine sE ?_ ?_|refine sN ?_ ?_|refine sG ?_ ?_)<;>intro ht<;>(first|(cases ht;done)|skip))|refine wr ?_|refine ix ?_|refine ati ?_|refine row ?_|refine app ?_|refine dr ?_|refine VBs.own ?_|fail)<;>(try conv=>whnf))
      all_goals rfl
end Go.Proofs.YtlghgdgpbnlpmaaGreat
/- What is proved: what whole of package context answers. Conditions: none. -/
namespace Go.Proofs.YtlghgdgpbnlpmaaGreat
open Go.RowKit
set_option linter.unusedVariables false
set_option linter.unusedSimpArgs false
set_option maxRecDepth 100000
set_option maxHeartbeats 16000000
theorem spn_snoc {B : List Spn} {l : List (Int × Int)} {d : Int} {i : Nat} (h : i < l.length) : (B ++ (l.take i).map (spn d)).map spE ++ [[i64 d, i64 l[i].1, i64 l[i].2]] = (B ++ (l.take (i + 1)).map (spn d)).map spE := by
  rw [← take_snoc h]
  simp only [List.map_append, List.append_assoc]
  rfl
theorem whole4_a (p0 p1 p2 p3 : List (Int × Int)) (h0 : p0.length ≤ 250000) (h1 : p1.length ≤ 250000) (h2 : p2.length ≤ 250000) (h3 : p3.length ≤ 250000) : AFnP Tryz.prog 132 [.agg [lstE runE p0, lstE runE p1, lstE runE p2, lstE runE p3]] (lstE spE (p0.map (spn 0) ++ (p1.map (spn 1) ++ (p2.map (spn 2) ++ p3.map (spn 3))))) := by
  refine afnp_in ty_ok Tryz.call132 Tryz.func132 rfl rfl (by decide +kernel) ?_
  (try conv=>whnf)<;>repeat'((first|exact sNo|refine sT ?_|refine sF ?_|((first|refine sD ?_ ?_|refine sE ?_ ?_|refine sN ?_ ?_|refine sG ?_ ?_)<;>intro ht<;>(first|(cases ht;done)|skip))|refine wr ?_|refine ix ?_|refine ati ?_|refine row ?_|refine app ?_|refine dr ?_|refine VBs.own ?_|fail)<;>(try conv=>whnf))
  refine VLp.mk ⟨[.slot 3 128 3], [], [3, 9], fun k vs h => (vs = [.own 0 0, i64 0] ∧ h = [.row 0 128 3 []] ∧ k = 4) ∨ (vs = [.own 0 (p0.map (spn 0)).length, i64 1] ∧ h = [.row 0 128 3 ((p0.map (spn 0)).map spE)] ∧ k = 3) ∨ (vs = [.own 0 (p0.map (spn 0) ++ (p1.map (spn 1))).length, i64 2] ∧ h = [.row 0 128 3 ((p0.map (spn 0) ++ (p1.map (spn 1))).map spE)] ∧ k = 2) ∨ (vs = [.own 0 (p0.map (spn 0) ++ (p1.map (spn 1) ++ (p2.map (spn 2)))).length, i64 3] ∧ h = [.row 0 128 3 ((p0.map (spn 0) ++ (p1.map (spn 1) ++ (p2.map (spn 2)))).map spE)] ∧ k = 1) ∨ (vs = [.own 0 (p0.map (spn 0) ++ (p1.map (spn 1) ++ (p2.map (spn 2) ++ (p3.map (spn 3))))).length, i64 4] ∧ h = [.row 0 128 3 ((p0.map (spn 0) ++ (p1.map (spn 1) ++ (p2.map (spn 2) ++ (p3.map (spn 3))))).map spE)] ∧ k = 0), 4, ?_⟩
  conv => whnf
  refine ⟨.inl ⟨rfl, rfl, rfl⟩, ?_⟩
  rintro k vs h (⟨rfl, rfl, rfl⟩ | ⟨rfl, rfl, rfl⟩ | ⟨rfl, rfl, rfl⟩ | ⟨rfl, rfl, rfl⟩ | ⟨rfl, rfl, rfl⟩)
  · have hB : ([] : List Spn).length ≤ 750000 := by simp only [List.length_append, List.length_map, List.length_nil]; omega
    have hE : (p0.map (spn 0)) = ([] : List Spn) ++ p0.map (spn 0) := by simp only [List.nil_append, List.append_assoc]
    rw [hE]
    generalize hb : ([] : List Spn) = B at *
    (try conv=>whnf)<;>repeat'((first|exact sNo|refine sT ?_|refine sF ?_|((first|refine sD ?_ ?_|refine sE ?_ ?_|refine sN ?_ ?_|refine sG ?_ ?_)<;>intro ht<;>(first|(cases ht;done)|skip))|refine wr ?_|refine ix ?_|refine ati ?_|refine row ?_|refine app ?_|refine dr ?_|refine VBs.own ?_|fail)<;>(try conv=>whnf))
    refine VLp.mk ⟨[], [], [3, 15], fun k vs h => ∃ i : Nat, vs = [.own 0 (B.length + i), i64 i] ∧ h = [.row 0 128 3 ((B ++ (p0.take i).map (spn 0)).map spE)] ∧ i ≤ p0.length ∧ k = p0.length - i, p0.length, ?_⟩
    conv => whnf
    refine ⟨⟨0, by subst hb; rfl, by subst hb; simp, by omega, by omega⟩, ?_⟩
    rintro k vs h ⟨i, rfl, rfl, hi, rfl⟩
    by_cases hin : i < p0.length
    · (try conv=>whnf)<;>repeat'((first|exact sNo|refine sT ?_|refine sF ?_|((first|refine sD ?_ ?_|refine sE ?_ ?_|refine sN ?_ ?_|refine sG ?_ ?_)<;>intro ht<;>(first|(cases ht;done)|skip))|refine wr ?_|refine ix ?_|refine ati ?_|refine row ?_|refine app ?_|refine dr ?_|refine VBs.own ?_|fail)<;>(try conv=>whnf))
      exact VRd.mk rfl ⟨p0.length - (i + 1), by omega, i + 1, rfl, by rw [← spn_snoc hin], by omega, rfl⟩
    · obtain rfl : i = p0.length := by omega
      rw [List.take_length]
      (try conv=>whnf)<;>repeat'((first|exact sNo|refine sT ?_|refine sF ?_|((first|refine sD ?_ ?_|refine sE ?_ ?_|refine sN ?_ ?_|refine sG ?_ ?_)<;>intro ht<;>(first|(cases ht;done)|skip))|refine wr ?_|refine ix ?_|refine ati ?_|refine row ?_|refine app ?_|refine dr ?_|refine VBs.own ?_|fail)<;>(try conv=>whnf))
      refine VRd.mk rfl ⟨3, by omega, .inr (.inl ⟨?_, ?_, rfl⟩)⟩
      · simp
      · simp
  · have hB : (p0.map (spn 0)).length ≤ 750000 := by simp only [List.length_append, List.length_map, List.length_nil]; omega
    have hE : (p0.map (spn 0) ++ (p1.map (spn 1))) = (p0.map (spn 0)) ++ p1.map (spn 1) := by simp only [List.nil_append, List.append_assoc]
    rw [hE]
    generalize hb : (p0.map (spn 0)) = B at *
    (try conv=>whnf)<;>repeat'((first|exact sNo|refine sT ?_|refine sF ?_|((first|refine sD ?_ ?_|refine sE ?_ ?_|refine sN ?_ ?_|refine sG ?_ ?_)<;>intro ht<;>(first|(cases ht;done)|skip))|refine wr ?_|refine ix ?_|refine ati ?_|refine row ?_|refine app ?_|refine dr ?_|refine VBs.own ?_|fail)<;>(try conv=>whnf))
    refine VLp.mk ⟨[], [], [3, 15], fun k vs h => ∃ i : Nat, vs = [.own 0 (B.length + i), i64 i] ∧ h = [.row 0 128 3 ((B ++ (p1.take i).map (spn 1)).map spE)] ∧ i ≤ p1.length ∧ k = p1.length - i, p1.length, ?_⟩
    conv => whnf
    refine ⟨⟨0, by subst hb; rfl, by subst hb; simp, by omega, by omega⟩, ?_⟩
    rintro k vs h ⟨i, rfl, rfl, hi, rfl⟩
    by_cases hin : i < p1.length
    · (try conv=>whnf)<;>repeat'((first|exact sNo|refine sT ?_|refine sF ?_|((first|refine sD ?_ ?_|refine sE ?_ ?_|refine sN ?_ ?_|refine sG ?_ ?_)<;>intro ht<;>(first|(cases ht;done)|skip))|refine wr ?_|refine ix ?_|refine ati ?_|refine row ?_|refine app ?_|refine dr ?_|refine VBs.own ?_|fail)<;>(try conv=>whnf))
      exact VRd.mk rfl ⟨p1.length - (i + 1), by omega, i + 1, rfl, by rw [← spn_snoc hin], by omega, rfl⟩
    · obtain rfl : i = p1.length := by omega
      rw [List.take_length]
      (try conv=>whnf)<;>repeat'((first|exact sNo|refine sT ?_|refine sF ?_|((first|refine sD ?_ ?_|refine sE ?_ ?_|refine sN ?_ ?_|refine sG ?_ ?_)<;>intro ht<;>(first|(cases ht;done)|skip))|refine wr ?_|refine ix ?_|refine ati ?_|refine row ?_|refine app ?_|refine dr ?_|refine VBs.own ?_|fail)<;>(try conv=>whnf))
      refine VRd.mk rfl ⟨2, by omega, .inr (.inr (.inl ⟨?_, ?_, rfl⟩))⟩
      · simp
      · simp
  · have hB : (p0.map (spn 0) ++ (p1.map (spn 1))).length ≤ 750000 := by simp only [List.length_append, List.length_map, List.length_nil]; omega
    have hE : (p0.map (spn 0) ++ (p1.map (spn 1) ++ (p2.map (spn 2)))) = (p0.map (spn 0) ++ (p1.map (spn 1))) ++ p2.map (spn 2) := by simp only [List.nil_append, List.append_assoc]
    rw [hE]
    generalize hb : (p0.map (spn 0) ++ (p1.map (spn 1))) = B at *
    (try conv=>whnf)<;>repeat'((first|exact sNo|refine sT ?_|refine sF ?_|((first|refine sD ?_ ?_|refine sE ?_ ?_|refine sN ?_ ?_|refine sG ?_ ?_)<;>intro ht<;>(first|(cases ht;done)|skip))|refine wr ?_|refine ix ?_|refine ati ?_|refine row ?_|refine app ?_|refine dr ?_|refine VBs.own ?_|fail)<;>(try conv=>whnf))
    refine VLp.mk ⟨[], [], [3, 15], fun k vs h => ∃ i : Nat, vs = [.own 0 (B.length + i), i64 i] ∧ h = [.row 0 128 3 ((B ++ (p2.take i).map (spn 2)).map spE)] ∧ i ≤ p2.length ∧ k = p2.length - i, p2.length, ?_⟩
    conv => whnf
    refine ⟨⟨0, by subst hb; rfl, by subst hb; simp, by omega, by omega⟩, ?_⟩
    rintro k vs h ⟨i, rfl, rfl, hi, rfl⟩
    by_cases hin : i < p2.length
    · (try conv=>whnf)<;>repeat'((first|exact sNo|refine sT ?_|refine sF ?_|((first|refine sD ?_ ?_|refine sE ?_ ?_|refine sN ?_ ?_|refine sG ?_ ?_)<;>intro ht<;>(first|(cases ht;done)|skip))|refine wr ?_|refine ix ?_|refine ati ?_|refine row ?_|refine app ?_|refine dr ?_|refine VBs.own ?_|fail)<;>(try conv=>whnf))
      exact VRd.mk rfl ⟨p2.length - (i + 1), by omega, i + 1, rfl, by rw [← spn_snoc hin], by omega, rfl⟩
    · obtain rfl : i = p2.length := by omega
      rw [List.take_length]
      (try conv=>whnf)<;>repeat'((first|exact sNo|refine sT ?_|refine sF ?_|((first|refine sD ?_ ?_|refine sE ?_ ?_|refine sN ?_ ?_|refine sG ?_ ?_)<;>intro ht<;>(first|(cases ht;done)|skip))|refine wr ?_|refine ix ?_|refine ati ?_|refine row ?_|refine app ?_|refine dr ?_|refine VBs.own ?_|fail)<;>(try conv=>whnf))
      refine VRd.mk rfl ⟨1, by omega, .inr (.inr (.inr (.inl ⟨?_, ?_, rfl⟩)))⟩
      · simp
      · simp
  · have hB : (p0.map (spn 0) ++ (p1.map (spn 1) ++ (p2.map (spn 2)))).length ≤ 750000 := by simp only [List.length_append, List.length_map, List.length_nil]; omega
    have hE : (p0.map (spn 0) ++ (p1.map (spn 1) ++ (p2.map (spn 2) ++ (p3.map (spn 3))))) = (p0.map (spn 0) ++ (p1.map (spn 1) ++ (p2.map (spn 2)))) ++ p3.map (spn 3) := by simp only [List.nil_append, List.append_assoc]
    rw [hE]
    generalize hb : (p0.map (spn 0) ++ (p1.map (spn 1) ++ (p2.map (spn 2)))) = B at *
    (try conv=>whnf)<;>repeat'((first|exact sNo|refine sT ?_|refine sF ?_|((first|refine sD ?_ ?_|refine sE ?_ ?_|refine sN ?_ ?_|refine sG ?_ ?_)<;>intro ht<;>(first|(cases ht;done)|skip))|refine wr ?_|refine ix ?_|refine ati ?_|refine row ?_|refine app ?_|refine dr ?_|refine VBs.own ?_|fail)<;>(try conv=>whnf))
    refine VLp.mk ⟨[], [], [3, 15], fun k vs h => ∃ i : Nat, vs = [.own 0 (B.length + i), i64 i] ∧ h = [.row 0 128 3 ((B ++ (p3.take i).map (spn 3)).map spE)] ∧ i ≤ p3.length ∧ k = p3.length - i, p3.length, ?_⟩
    conv => whnf
    refine ⟨⟨0, by subst hb; rfl, by subst hb; simp, by omega, by omega⟩, ?_⟩
    rintro k vs h ⟨i, rfl, rfl, hi, rfl⟩
    by_cases hin : i < p3.length
    · (try conv=>whnf)<;>repeat'((first|exact sNo|refine sT ?_|refine sF ?_|((first|refine sD ?_ ?_|refine sE ?_ ?_|refine sN ?_ ?_|refine sG ?_ ?_)<;>intro ht<;>(first|(cases ht;done)|skip))|refine wr ?_|refine ix ?_|refine ati ?_|refine row ?_|refine app ?_|refine dr ?_|refine VBs.own ?_|fail)<;>(try conv=>whnf))
      exact VRd.mk rfl ⟨p3.length - (i + 1), by omega, i + 1, rfl, by rw [← spn_snoc hin], by omega, rfl⟩
    · obtain rfl : i = p3.length := by omega
      rw [List.take_length]
      (try conv=>whnf)<;>repeat'((first|exact sNo|refine sT ?_|refine sF ?_|((first|refine sD ?_ ?_|refine sE ?_ ?_|refine sN ?_ ?_|refine sG ?_ ?_)<;>intro ht<;>(first|(cases ht;done)|skip))|refine wr ?_|refine ix ?_|refine ati ?_|refine row ?_|refine app ?_|refine dr ?_|refine VBs.own ?_|fail)<;>(try conv=>whnf))
      refine VRd.mk rfl ⟨0, by omega, .inr (.inr (.inr (.inr (⟨?_, ?_, rfl⟩))))⟩
      · simp
      · simp
  · (try conv=>whnf)<;>repeat'((first|exact sNo|refine sT ?_|refine sF ?_|((first|refine sD ?_ ?_|refine sE ?_ ?_|refine sN ?_ ?_|refine sG ?_ ?_)<;>intro ht<;>(first|(cases ht;done)|skip))|refine wr ?_|refine ix ?_|refine ati ?_|refine row ?_|refine app ?_|refine dr ?_|refine VBs.own ?_|fail)<;>(try conv=>whnf))
theorem whole_a (p : Int → List (Int × Int)) (h : ∀ d : Int, 0 ≤ d → d < 4 → (p d).length ≤ 250000) : AFnP Tryz.prog 132 [.agg [lstE runE (p 0), lstE runE (p 1), lstE runE (p 2), lstE runE (p 3)]] (lstE spE (whole p)) :=
  whole4_a _ _ _ _ (h 0 (by omega) (by omega)) (h 1 (by omega) (by omega)) (h 2 (by omega) (by omega)) (h 3 (by omega) (by omega))
end Go.Proofs.YtlghgdgpbnlpmaaGreat
/- What is proved: the plain law of contexts. Conditions: none. -/
namespace Go.Proofs.YtlghgdgpbnlpmaaGreat
set_option linter.unusedVariables false
set_option linter.unusedSimpArgs false
/-- is a context right? -/
def RightC (c : List Spn) : Prop := RisesP c ∧ ∀ d : Int, 0 ≤ d → d < 4 → RightP (part c d)
theorem four {p : Int → Prop} (h0 : p 0) (h1 : p 1) (h2 : p 2) (h3 : p 3) : ∀ d : Int, 0 ≤ d → d < 4 → p d := fun d k0 k4 => by
  have : d = 0 ∨ d = 1 ∨ d = 2 ∨ d = 3 := by omega
  rcases this with rfl | rfl | rfl | rfl <;> assumption
theorem rightC_iff {c : List Spn} : rightC c = true ↔ RightC c := by
  unfold rightC RightC
  simp only [Bool.and_eq_true, risesL_iff, rightL_iff]
  constructor
  · rintro ⟨h, h0, h1, h2, h3⟩
    exact ⟨h, four h0 h1 h2 h3⟩
  · rintro ⟨h, k⟩
    exact ⟨h, k 0 (by omega) (by omega), k 1 (by omega) (by omega), k 2 (by omega) (by omega), k 3 (by omega) (by omega)⟩
theorem rightC_whole {p : Int → List (Int × Int)} (h : ∀ d : Int, 0 ≤ d → d < 4 → RightP (p d)) : RightC (whole p) :=
  ⟨rises_whole p, fun d h0 h4 => by rw [part_whole p h0 h4]; exact h d h0 h4⟩
theorem right_ext {a b : List Spn} (ha : RightC a) (hb : RightC b) (h : ∀ d : Int, 0 ≤ d → d < 4 → ∀ y, hasL (part a d) y ↔ hasL (part b d) y) : a = b :=
  ctx_ext ha.1 hb.1 fun d h0 h4 => canonR (ha.2 d h0 h4) (hb.2 d h0 h4) (h d h0 h4)
theorem whole_len (p : Int → List (Int × Int)) : (whole p).length = (p 0).length + (p 1).length + (p 2).length + (p 3).length := by
  unfold whole; simp only [List.length_append, List.length_map]; omega
theorem parts_len {c : List Spn} (h : RisesP c) : (part c 0).length + (part c 1).length + (part c 2).length + (part c 3).length = c.length := by
  rw [← whole_len, whole_part h]
theorem rightL_part {c : List Spn} (h : RightC c) {d : Int} (h0 : 0 ≤ d) (h4 : d < 4) : rightL (part c d) = true := rightL_iff.2 (h.2 d h0 h4)
/-- two contexts put together, center by center -/
def byC (f : List (Int × Int) → List (Int × Int) → List (Int × Int)) (a b : List Spn) : List Spn := whole fun d => f (part a d) (part b d)
theorem part_byC (f : List (Int × Int) → List (Int × Int) → List (Int × Int)) (a b : List Spn) {d : Int} (h0 : 0 ≤ d) (h4 : d < 4) : part (byC f a b) d = f (part a d) (part b d) := part_whole _ h0 h4
def hasP (c : List Spn) (d y : Int) : Prop := 0 ≤ d ∧ d < 4 ∧ hasL (part c d) y
theorem ext_has {a b : List Spn} (ha : RightC a) (hb : RightC b) (h : ∀ d y, hasP a d y ↔ hasP b d y) : a = b :=
  right_ext ha hb fun d h0 h4 y => by have := h d y; simpa [hasP, h0, h4] using this
section two
variable {a b : List Spn}
theorem miC_is (ha : RightC a) (hb : RightC b) : RightC (byC minusL a b) ∧ (∀ d y, hasP (byC minusL a b) d y ↔ hasP a d y ∧ ¬ hasP b d y) ∧ (byC minusL a b).length ≤ a.length * (b.length + 1) := by
  have h := fun (d : Int) (h0 : 0 ≤ d) (h4 : d < 4) => minus_spec (ha.2 d h0 h4) (hb.2 d h0 h4)
  refine ⟨rightC_whole fun d h0 h4 => (h d h0 h4).1, fun d y => ?_, ?_⟩
  · unfold hasP
    constructor
    · rintro ⟨h0, h4, k⟩
      rw [part_byC _ _ _ h0 h4, (h d h0 h4).2.1 y] at k
      exact ⟨⟨h0, h4, k.1⟩, fun ⟨_, _, k2⟩ => k.2 k2⟩
    · rintro ⟨⟨h0, h4, k⟩, k2⟩
      exact ⟨h0, h4, by rw [part_byC _ _ _ h0 h4, (h d h0 h4).2.1 y]; exact ⟨k, fun k3 => k2 ⟨h0, h4, k3⟩⟩⟩
  · unfold byC
    rw [whole_len]
    have hl := parts_len ha.1
    have hm := parts_len hb.1
    have h0 := (h 0 (by omega) (by omega)).2.2
    have h1 := (h 1 (by omega) (by omega)).2.2
    have h2 := (h 2 (by omega) (by omega)).2.2
    have h3 := (h 3 (by omega) (by omega)).2.2
    have g : ∀ x y : Nat, y ≤ b.length → x * (y + 1) ≤ x * (b.length + 1) := fun x y hy => Nat.mul_le_mul_left x (by omega)
    have g0 := g (part a 0).length _ (show (part b 0).length ≤ b.length by omega)
    have g1 := g (part a 1).length _ (show (part b 1).length ≤ b.length by omega)
    have g2 := g (part a 2).length _ (show (part b 2).length ≤ b.length by omega)
    have g3 := g (part a 3).length _ (show (part b 3).length ≤ b.length by omega)
    have : a.length * (b.length + 1) = (part a 0).length * (b.length + 1) + (part a 1).length * (b.length + 1) + (part a 2).length * (b.length + 1) + (part a 3).length * (b.length + 1) := by
      rw [← hl, Nat.add_mul, Nat.add_mul, Nat.add_mul]
    omega
theorem empty_iff (h : RightC a) : a = [] ↔ ∀ d y, ¬ hasP a d y := by
  constructor
  · rintro rfl d y ⟨_, _, z, hz, _⟩
    simp [part] at hz
  · intro hno
    refine ext_has h ⟨⟨by simp, List.Pairwise.nil⟩, fun d _ _ => rightP_nil⟩ fun d y => ⟨fun k => absurd k (hno d y), fun ⟨_, _, z, hz, _⟩ => by simp [part] at hz⟩
theorem leq_iff (ha : RightC a) (hb : RightC b) : byC minusL a b = [] ↔ ∀ d y, hasP a d y → hasP b d y := by
  rw [empty_iff (miC_is ha hb).1]
  constructor
  · intro h d y k
    exact Classical.byContradiction fun k2 => h d y (((miC_is ha hb).2.1 d y).2 ⟨k, k2⟩)
  · intro h d y k
    have := ((miC_is ha hb).2.1 d y).1 k
    exact this.2 (h d y this.1)
end two
/-! dots -/
theorem okDot_iff {x : Int × Int} : okDot x = true ↔ (0 ≤ x.1 ∧ x.1 < 4) ∧ 1 ≤ x.2 ∧ x.2 ≤ 1099511627776 := by unfold okDot; simp only [Bool.and_eq_true, decide_eq_true_eq]
def nums (l : List (Int × Int)) (d : Int) : List Int := (l.filter fun x => decide (x.1 = d)).map fun x => x.2
theorem nums_take {c : List (Int × Int)} {i : Nat} (h : i < c.length) (d : Int) : nums (c.take (i + 1)) d = nums (c.take i) d ++ (if c[i].1 = d then [c[i].2] else []) := by
  unfold nums
  rw [← take_snoc h, List.filter_append, List.map_append]
  congr 1
  by_cases hd : c[i].1 = d <;> simp [hd]
theorem nums_len (c : List (Int × Int)) (d : Int) : (nums c d).length ≤ c.length := by
  unfold nums; rw [List.length_map]; exact List.length_filter_le _ _
theorem nums_take_len (c : List (Int × Int)) (i : Nat) (d : Int) : (nums (c.take i) d).length ≤ i := Nat.le_trans (nums_len _ _) (by simp; omega)
theorem nums_ok {l : List (Int × Int)} (h : l.all okDot = true) (d : Int) : (nums l d).all okNum = true := by
  rw [List.all_eq_true]
  intro x hx
  obtain ⟨y, hy, rfl⟩ := List.mem_map.1 hx
  have := okDot_iff.1 (List.all_eq_true.1 h y (List.mem_filter.1 hy).1)
  unfold okNum
  simp [this]
def ofC (l : List (Int × Int)) : List Spn := whole fun d => ofL (nums l d)
theorem ofC_right {l : List (Int × Int)} (h : l.all okDot = true) : RightC (ofC l) := rightC_whole fun d _ _ => (ofL_is (nums_ok h d)).1
/-! what is told of one -/
def vecE (v : Int → Int) : AV := .agg [i64 (v 0), i64 (v 1), i64 (v 2), i64 (v 3)]
def run1 (n : Int) : List (Int × Int) := if 0 < n then [(1, n)] else []
def fullC (v : Int → Int) : List Spn := whole fun d => run1 (v d)
def mayV (v : Int → Int) : Bool := (decide (0 ≤ v 0) && decide (v 0 ≤ 1099511627776)) && ((decide (0 ≤ v 1) && decide (v 1 ≤ 1099511627776)) && ((decide (0 ≤ v 2) && decide (v 2 ≤ 1099511627776)) && (decide (0 ≤ v 3) && decide (v 3 ≤ 1099511627776))))
theorem mayV_iff {v : Int → Int} : mayV v = true ↔ ∀ d : Int, 0 ≤ d → d < 4 → 0 ≤ v d ∧ v d ≤ 1099511627776 := by
  unfold mayV
  simp only [Bool.and_eq_true, decide_eq_true_eq]
  constructor
  · rintro ⟨h0, h1, h2, h3⟩; exact four h0 h1 h2 h3
  · intro k; exact ⟨k 0 (by omega) (by omega), k 1 (by omega) (by omega), k 2 (by omega) (by omega), k 3 (by omega) (by omega)⟩
theorem run1_right {n : Int} (h : n ≤ 1099511627776) : RightP (run1 n) := by
  unfold run1
  split
  · exact ⟨fun x hx => by rw [List.mem_singleton.1 hx]; exact ⟨Int.le_refl _, by dsimp only; omega, h⟩, List.pairwise_singleton _ _⟩
  · exact rightP_nil
theorem run1_has {n y : Int} : hasL (run1 n) y ↔ 1 ≤ y ∧ y ≤ n := by
  unfold run1
  split
  · rw [hasL_one]
  · constructor
    · rintro ⟨z, hz, _⟩; cases hz
    · intro h; omega
theorem fullC_right {v : Int → Int} (h : mayV v = true) : RightC (fullC v) := rightC_whole fun d h0 h4 => run1_right (mayV_iff.1 h d h0 h4).2
theorem part_fullC (v : Int → Int) {d : Int} (h0 : 0 ≤ d) (h4 : d < 4) : part (fullC v) d = run1 (v d) := part_whole _ h0 h4
/-! raised -/
def mxV (v w : Int → Int) (d : Int) : Int := mx (v d) (w d)
theorem mayV_mx {v w : Int → Int} (hv : mayV v = true) (hw : mayV w = true) : mayV (mxV v w) = true := mayV_iff.2 fun d h0 h4 => by
  have h1 := mayV_iff.1 hv d h0 h4
  have h2 := mayV_iff.1 hw d h0 h4
  unfold mxV mx
  split <;> assumption
def atMost (v w : Int → Int) : Bool := decide (v 0 ≤ w 0) && (decide (v 1 ≤ w 1) && (decide (v 2 ≤ w 2) && decide (v 3 ≤ w 3)))
theorem atMost_iff {v w : Int → Int} : atMost v w = true ↔ ∀ d : Int, 0 ≤ d → d < 4 → v d ≤ w d := by
  unfold atMost
  simp only [Bool.and_eq_true, decide_eq_true_eq]
  constructor
  · rintro ⟨h0, h1, h2, h3⟩; exact four h0 h1 h2 h3
  · intro k; exact ⟨k 0 (by omega) (by omega), k 1 (by omega) (by omega), k 2 (by omega) (by omega), k 3 (by omega) (by omega)⟩
theorem full_leq {v w : Int → Int} (hv : mayV v = true) (hw : mayV w = true) : byC minusL (fullC v) (fullC w) = [] ↔ atMost v w = true := by
  rw [leq_iff (fullC_right hv) (fullC_right hw), atMost_iff]
  constructor
  · intro h d h0 h4
    have h1 := mayV_iff.1 hv d h0 h4
    have h2 := mayV_iff.1 hw d h0 h4
    by_cases hz : v d = 0
    · omega
    · have := (h d (v d) ⟨h0, h4, by rw [part_fullC _ h0 h4, run1_has]; omega⟩).2.2
      rw [part_fullC _ h0 h4, run1_has] at this
      omega
  · rintro h d y ⟨h0, h4, k⟩
    rw [part_fullC _ h0 h4, run1_has] at k
    refine ⟨h0, h4, ?_⟩
    rw [part_fullC _ h0 h4, run1_has]
    have := h d h0 h4
    omega
end Go.Proofs.YtlghgdgpbnlpmaaGreat
/- What is proved: what Right, Range, Has, Solid, Vector, Full, Count of package context answer. Conditions: none. -/
namespace Go.Proofs.YtlghgdgpbnlpmaaGreat
open Go.RowKit
set_option linter.unusedVariables false
set_option linter.unusedSimpArgs false
set_option maxRecDepth 100000
set_option maxHeartbeats 16000000
theorem apart_t {c : List Spn} (h : rightC c = true) (hn : c.length ≤ 1000000) : AFnP Tryz.prog 133 [lstE spE c] (.tup [partsE c, .bool true]) := by
  have := apart_a c hn
  rwa [if_pos h] at this
theorem apart_f {c : List Spn} (h : rightC c = false) (hn : c.length ≤ 1000000) : AFnP Tryz.prog 133 [lstE spE c] (.tup [noPartsE, .bool false]) := by
  have := apart_a c hn
  rwa [if_neg (by rw [h]; decide)] at this
theorem cright_p {c : List Spn} {t : Bool} (ht : rightC c = t) (hn : c.length ≤ 1000000) : AFnP Tryz.prog 110 [lstE spE c] (.bool t) := by
  refine afnp_in ty_ok Tryz.call110 Tryz.func110 rfl rfl (by decide +kernel) ?_
  cases t
  · (try conv=>whnf)<;>repeat'((first|exact sNo|refine sT ?_|refine sF ?_|((first|refine sD ?_ ?_|refine sE ?_ ?_|refine sN ?_ ?_|refine sG ?_ ?_)<;>intro ht<;>(first|(cases ht;done)|skip))|refine wr ?_|refine ix ?_|refine ati ?_|refine row ?_|refine app ?_|refine dr ?_|refine VBs.own ?_|refine cf (apart_f ht hn) ?_|refine cg (apart_f ht hn) ?_|refine cz (apart_f ht hn) ?_|fail)<;>(try conv=>whnf))
  · (try conv=>whnf)<;>repeat'((first|exact sNo|refine sT ?_|refine sF ?_|((first|refine sD ?_ ?_|refine sE ?_ ?_|refine sN ?_ ?_|refine sG ?_ ?_)<;>intro ht<;>(first|(cases ht;done)|skip))|refine wr ?_|refine ix ?_|refine ati ?_|refine row ?_|refine app ?_|refine dr ?_|refine VBs.own ?_|refine cf (apart_t ht hn) ?_|refine cg (apart_t ht hn) ?_|refine cz (apart_t ht hn) ?_|fail)<;>(try conv=>whnf))
theorem dright_a_s (x : Int × Int) : AFnP Tryz.prog 130 [.agg (dtE x)] (.bool (okDot x)) := by
  refine afnp_in ty_ok Tryz.call130 Tryz.func130 rfl rfl (by decide +kernel) ?_
  (try conv=>whnf)<;>repeat'((first|exact sNo|refine sT ?_|refine sF ?_|((first|refine sD ?_ ?_|refine sE ?_ ?_|refine sN ?_ ?_|refine sG ?_ ?_)<;>intro ht<;>(first|(cases ht;done)|skip))|refine wr ?_|refine ix ?_|refine ati ?_|refine row ?_|refine app ?_|refine dr ?_|refine VBs.own ?_|fail)<;>(try conv=>whnf))
  all_goals (unfold okDot; simp [*])
theorem dright_p (x : Int × Int) {t : Bool} (ht : okDot x = t) : AFnP Tryz.prog 130 [.agg [i64 x.1, i64 x.2]] (.bool t) := by subst ht; exact dright_a_s x
def rangeE (d a b : Int) : AV := if (okDot (d, a) && okDot (d, b)) = true then (if b < a then .tup [.lst 0 [], i64 0] else .tup [lstE spE [(d, a, b)], i64 0]) else .tup [.lst 0 [], i64 1]
theorem range_a (d a b : Int) : AFnP Tryz.prog 112 [i64 d, i64 a, i64 b] (rangeE d a b) := by
  refine afnp_in ty_ok Tryz.call112 Tryz.func112 rfl rfl (by decide +kernel) ?_
  unfold rangeE
  cases h1 : okDot (d, a)
  · (try conv=>whnf)<;>repeat'((first|exact sNo|refine sT ?_|refine sF ?_|((first|refine sD ?_ ?_|refine sE ?_ ?_|refine sN ?_ ?_|refine sG ?_ ?_)<;>intro ht<;>(first|(cases ht;done)|skip))|refine wr ?_|refine ix ?_|refine ati ?_|refine row ?_|refine app ?_|refine dr ?_|refine VBs.own ?_|refine cf (dright_p (d,a) h1) ?_|refine cg (dright_p (d,a) h1) ?_|refine cz (dright_p (d,a) h1) ?_|fail)<;>(try conv=>whnf))
    all_goals rfl
  · cases h2 : okDot (d, b)
    · (try conv=>whnf)<;>repeat'((first|exact sNo|refine sT ?_|refine sF ?_|((first|refine sD ?_ ?_|refine sE ?_ ?_|refine sN ?_ ?_|refine sG ?_ ?_)<;>intro ht<;>(first|(cases ht;done)|skip))|refine wr ?_|refine ix ?_|refine ati ?_|refine row ?_|refine app ?_|refine dr ?_|refine VBs.own ?_|refine cf (dright_p (d,a) h1) ?_|refine cg (dright_p (d,a) h1) ?_|refine cz (dright_p (d,a) h1) ?_|refine cf (dright_p (d,b) h2) ?_|refine cg (dright_p (d,b) h2) ?_|refine cz (dright_p (d,b) h2) ?_|fail)<;>(try conv=>whnf))
      all_goals rfl
    · by_cases hlt : b < a
      · rw [if_pos hlt]
        (try conv=>whnf)<;>repeat'((first|exact sNo|refine sT ?_|refine sF ?_|((first|refine sD ?_ ?_|refine sE ?_ ?_|refine sN ?_ ?_|refine sG ?_ ?_)<;>intro ht<;>(first|(cases ht;done)|skip))|refine wr ?_|refine ix ?_|refine ati ?_|refine row ?_|refine app ?_|refine dr ?_|refine VBs.own ?_|refine cf (dright_p (d,a) h1) ?_|refine cg (dright_p (d,a) h1) ?_|refine cz (dright_p (d,a) h1) ?_|refine cf (dright_p (d,b) h2) ?_|refine cg (dright_p (d,b) h2) ?_|refine cz (dright_p (d,b) h2) ?_|fail)<;>(try conv=>whnf))
        all_goals rfl
      · rw [if_neg hlt]
        (try conv=>whnf)<;>repeat'((first|exact sNo|refine sT ?_|refine sF ?_|((first|refine sD ?_ ?_|refine sE ?_ ?_|refine sN ?_ ?_|refine sG ?_ ?_)<;>intro ht<;>(first|(cases ht;done)|skip))|refine wr ?_|refine ix ?_|refine ati ?_|refine row ?_|refine app ?_|refine dr ?_|refine VBs.own ?_|refine cf (dright_p (d,a) h1) ?_|refine cg (dright_p (d,a) h1) ?_|refine cz (dright_p (d,a) h1) ?_|refine cf (dright_p (d,b) h2) ?_|refine cg (dright_p (d,b) h2) ?_|refine cz (dright_p (d,b) h2) ?_|fail)<;>(try conv=>whnf))
        all_goals rfl
end Go.Proofs.YtlghgdgpbnlpmaaGreat
