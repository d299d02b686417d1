/- What is proved: the plain law of contexts. Conditions: none. -/
import Derived.Test.YtklionofaknjcaaLb
import Derived.Test.YtklionofaknjcaaKp
namespace Go.Proofs.Ytklionofaknjcaa
set_option linter.unusedVariables false
set_option linter.unusedSimpArgs false
/-- is a context right? -/
def RightC (c : List Spn) : Prop := RisesP c ∧ ∀ d : Int, 0 ≤ d → d < 4 → RightP (part c d)
theorem four {p : Int → Prop} (h0 : p 0) (h1 : p 1) (h2 : p 2) (h3 : p 3) : ∀ d : Int, 0 ≤ d → d < 4 → p d := fun d k0 k4 => by
  have : d = 0 ∨ d = 1 ∨ d = 2 ∨ d = 3 := by omega
  rcases this with rfl | rfl | rfl | rfl <;> assumption
theorem rightC_iff {c : List Spn} : rightC c = true ↔ RightC c := by
  unfold rightC RightC
  simp only [Bool.and_eq_true, risesL_iff, rightL_iff]
  constructor
  · rintro ⟨h, h0, h1, h2, h3⟩
    exact ⟨h, four h0 h1 h2 h3⟩
  · rintro ⟨h, k⟩
    exact ⟨h, k 0 (by omega) (by omega), k 1 (by omega) (by omega), k 2 (by omega) (by omega), k 3 (by omega) (by omega)⟩
theorem rightC_whole {p : Int → List (Int × Int)} (h : ∀ d : Int, 0 ≤ d → d < 4 → RightP (p d)) : RightC (whole p) :=
  ⟨rises_whole p, fun d h0 h4 => by rw [part_whole p h0 h4]; exact h d h0 h4⟩
theorem right_ext {a b : List Spn} (ha : RightC a) (hb : RightC b) (h : ∀ d : Int, 0 ≤ d → d < 4 → ∀ y, hasL (part a d) y ↔ hasL (part b d) y) : a = b :=
  ctx_ext ha.1 hb.1 fun d h0 h4 => canonR (ha.2 d h0 h4) (hb.2 d h0 h4) (h d h0 h4)
theorem whole_len (p : Int → List (Int × Int)) : (whole p).length = (p 0).length + (p 1).length + (p 2).length + (p 3).length := by
  unfold whole; simp only [List.length_append, List.length_map]; omega
theorem parts_len {c : List Spn} (h : RisesP c) : (part c 0).length + (part c 1).length + (part c 2).length + (part c 3).length = c.length := by
  rw [← whole_len, whole_part h]
theorem rightL_part {c : List Spn} (h : RightC c) {d : Int} (h0 : 0 ≤ d) (h4 : d < 4) : rightL (part c d) = true := rightL_iff.2 (h.2 d h0 h4)
/-- two contexts put together, center by center -/
def byC (f : List (Int × Int) → List (Int × Int) → List (Int × Int)) (a b : List Spn) : List Spn := whole fun d => f (part a d) (part b d)
theorem part_byC (f : List (Int × Int) → List (Int × Int) → List (Int × Int)) (a b : List Spn) {d : Int} (h0 : 0 ≤ d) (h4 : d < 4) : part (byC f a b) d = f (part a d) (part b d) := part_whole _ h0 h4
def hasP (c : List Spn) (d y : Int) : Prop := 0 ≤ d ∧ d < 4 ∧ hasL (part c d) y
theorem ext_has {a b : List Spn} (ha : RightC a) (hb : RightC b) (h : ∀ d y, hasP a d y ↔ hasP b d y) : a = b :=
  right_ext ha hb fun d h0 h4 y => by have := h d y; simpa [hasP, h0, h4] using this
section two
variable {a b : List Spn}
theorem unC_is (ha : RightC a) (hb : RightC b) : RightC (byC unL a b) ∧ (∀ d y, hasP (byC unL a b) d y ↔ hasP a d y ∨ hasP b d y) ∧ (byC unL a b).length ≤ a.length + b.length := by
  have h : ∀ d : Int, 0 ≤ d → d < 4 → IsUn (part a d) (part b d) (unL (part a d) (part b d)) := fun d h0 h4 => unL_is (rightL_part ha h0 h4) (rightL_part hb h0 h4)
  refine ⟨rightC_whole fun d h0 h4 => (h d h0 h4).1, fun d y => ?_, ?_⟩
  · unfold hasP
    constructor
    · rintro ⟨h0, h4, k⟩
      rw [part_byC _ _ _ h0 h4, (h d h0 h4).2.1 y] at k
      rcases k with k | k
      · exact .inl ⟨h0, h4, k⟩
      · exact .inr ⟨h0, h4, k⟩
    · rintro (⟨h0, h4, k⟩ | ⟨h0, h4, k⟩)
      · exact ⟨h0, h4, by rw [part_byC _ _ _ h0 h4, (h d h0 h4).2.1 y]; exact .inl k⟩
      · exact ⟨h0, h4, by rw [part_byC _ _ _ h0 h4, (h d h0 h4).2.1 y]; exact .inr k⟩
  · unfold byC
    rw [whole_len, ← parts_len ha.1, ← parts_len hb.1]
    have h0 := (h 0 (by omega) (by omega)).2.2
    have h1 := (h 1 (by omega) (by omega)).2.2
    have h2 := (h 2 (by omega) (by omega)).2.2
    have h3 := (h 3 (by omega) (by omega)).2.2
    omega
theorem meC_is (ha : RightC a) (hb : RightC b) : RightC (byC meetL a b) ∧ (∀ d y, hasP (byC meetL a b) d y ↔ hasP a d y ∧ hasP b d y) ∧ (byC meetL a b).length ≤ a.length + b.length := by
  have h := fun (d : Int) (h0 : 0 ≤ d) (h4 : d < 4) => meet_spec _ (part a d) (part b d) (Nat.le_refl _) (ha.2 d h0 h4) (hb.2 d h0 h4)
  refine ⟨rightC_whole fun d h0 h4 => (h d h0 h4).1, fun d y => ?_, ?_⟩
  · unfold hasP
    constructor
    · rintro ⟨h0, h4, k⟩
      rw [part_byC _ _ _ h0 h4, (h d h0 h4).2.1 y] at k
      exact ⟨⟨h0, h4, k.1⟩, h0, h4, k.2⟩
    · rintro ⟨⟨h0, h4, k⟩, -, -, k2⟩
      exact ⟨h0, h4, by rw [part_byC _ _ _ h0 h4, (h d h0 h4).2.1 y]; exact ⟨k, k2⟩⟩
  · unfold byC
    rw [whole_len, ← parts_len ha.1, ← parts_len hb.1]
    have h0 := (h 0 (by omega) (by omega)).2.2
    have h1 := (h 1 (by omega) (by omega)).2.2
    have h2 := (h 2 (by omega) (by omega)).2.2
    have h3 := (h 3 (by omega) (by omega)).2.2
    omega
theorem miC_is (ha : RightC a) (hb : RightC b) : RightC (byC minusL a b) ∧ (∀ d y, hasP (byC minusL a b) d y ↔ hasP a d y ∧ ¬ hasP b d y) ∧ (byC minusL a b).length ≤ a.length * (b.length + 1) := by
  have h := fun (d : Int) (h0 : 0 ≤ d) (h4 : d < 4) => minus_spec (ha.2 d h0 h4) (hb.2 d h0 h4)
  refine ⟨rightC_whole fun d h0 h4 => (h d h0 h4).1, fun d y => ?_, ?_⟩
  · unfold hasP
    constructor
    · rintro ⟨h0, h4, k⟩
      rw [part_byC _ _ _ h0 h4, (h d h0 h4).2.1 y] at k
      exact ⟨⟨h0, h4, k.1⟩, fun ⟨_, _, k2⟩ => k.2 k2⟩
    · rintro ⟨⟨h0, h4, k⟩, k2⟩
      exact ⟨h0, h4, by rw [part_byC _ _ _ h0 h4, (h d h0 h4).2.1 y]; exact ⟨k, fun k3 => k2 ⟨h0, h4, k3⟩⟩⟩
  · unfold byC
    rw [whole_len]
    have hl := parts_len ha.1
    have hm := parts_len hb.1
    have h0 := (h 0 (by omega) (by omega)).2.2
    have h1 := (h 1 (by omega) (by omega)).2.2
    have h2 := (h 2 (by omega) (by omega)).2.2
    have h3 := (h 3 (by omega) (by omega)).2.2
    have g : ∀ x y : Nat, y ≤ b.length → x * (y + 1) ≤ x * (b.length + 1) := fun x y hy => Nat.mul_le_mul_left x (by omega)
    have g0 := g (part a 0).length _ (show (part b 0).length ≤ b.length by omega)
    have g1 := g (part a 1).length _ (show (part b 1).length ≤ b.length by omega)
    have g2 := g (part a 2).length _ (show (part b 2).length ≤ b.length by omega)
    have g3 := g (part a 3).length _ (show (part b 3).length ≤ b.length by omega)
    have : a.length * (b.length + 1) = (part a 0).length * (b.length + 1) + (part a 1).length * (b.length + 1) + (part a 2).length * (b.length + 1) + (part a 3).length * (b.length + 1) := by
      rw [← hl, Nat.add_mul, Nat.add_mul, Nat.add_mul]
    omega
theorem empty_iff (h : RightC a) : a = [] ↔ ∀ d y, ¬ hasP a d y := by
  constructor
  · rintro rfl d y ⟨_, _, z, hz, _⟩
    simp [part] at hz
  · intro hno
    refine ext_has h ⟨⟨by simp, List.Pairwise.nil⟩, fun d _ _ => rightP_nil⟩ fun d y => ⟨fun k => absurd k (hno d y), fun ⟨_, _, z, hz, _⟩ => by simp [part] at hz⟩
theorem leq_iff (ha : RightC a) (hb : RightC b) : byC minusL a b = [] ↔ ∀ d y, hasP a d y → hasP b d y := by
  rw [empty_iff (miC_is ha hb).1]
  constructor
  · intro h d y k
    exact Classical.byContradiction fun k2 => h d y (((miC_is ha hb).2.1 d y).2 ⟨k, k2⟩)
  · intro h d y k
    have := ((miC_is ha hb).2.1 d y).1 k
    exact this.2 (h d y this.1)
end two
/-! dots -/
def dtE (x : Int × Int) : List AV := [i64 x.1, i64 x.2]
def okDot (x : Int × Int) : Bool := (decide (0 ≤ x.1) && decide (x.1 < 4)) && (decide (1 ≤ x.2) && decide (x.2 ≤ 1099511627776))
theorem okDot_iff {x : Int × Int} : okDot x = true ↔ (0 ≤ x.1 ∧ x.1 < 4) ∧ 1 ≤ x.2 ∧ x.2 ≤ 1099511627776 := by unfold okDot; simp only [Bool.and_eq_true, decide_eq_true_eq]
def nums (l : List (Int × Int)) (d : Int) : List Int := (l.filter fun x => decide (x.1 = d)).map fun x => x.2
theorem nums_take {c : List (Int × Int)} {i : Nat} (h : i < c.length) (d : Int) : nums (c.take (i + 1)) d = nums (c.take i) d ++ (if c[i].1 = d then [c[i].2] else []) := by
  unfold nums
  rw [← take_snoc h, List.filter_append, List.map_append]
  congr 1
  by_cases hd : c[i].1 = d <;> simp [hd]
theorem nums_len (c : List (Int × Int)) (d : Int) : (nums c d).length ≤ c.length := by
  unfold nums; rw [List.length_map]; exact List.length_filter_le _ _
theorem nums_take_len (c : List (Int × Int)) (i : Nat) (d : Int) : (nums (c.take i) d).length ≤ i := Nat.le_trans (nums_len _ _) (by simp; omega)
theorem nums_ok {l : List (Int × Int)} (h : l.all okDot = true) (d : Int) : (nums l d).all okNum = true := by
  rw [List.all_eq_true]
  intro x hx
  obtain ⟨y, hy, rfl⟩ := List.mem_map.1 hx
  have := okDot_iff.1 (List.all_eq_true.1 h y (List.mem_filter.1 hy).1)
  unfold okNum
  simp [this]
def ofC (l : List (Int × Int)) : List Spn := whole fun d => ofL (nums l d)
theorem ofC_right {l : List (Int × Int)} (h : l.all okDot = true) : RightC (ofC l) := rightC_whole fun d _ _ => (ofL_is (nums_ok h d)).1
/-! what is told of one -/
def hasC (c : List Spn) (x : Int × Int) : Bool := rightC c && (okDot x && hasB (part c x.1) x.2)
theorem hasC_iff {c : List Spn} (h : RightC c) {x : Int × Int} : hasC c x = true ↔ hasP c x.1 x.2 := by
  unfold hasC hasP
  rw [rightC_iff.2 h, Bool.true_and, Bool.and_eq_true, okDot_iff]
  constructor
  · rintro ⟨⟨⟨h0, h4⟩, _⟩, k⟩
    exact ⟨h0, h4, (hasB_right (h.2 _ h0 h4)).1 k⟩
  · rintro ⟨h0, h4, k⟩
    refine ⟨⟨⟨h0, h4⟩, ?_⟩, (hasB_right (h.2 _ h0 h4)).2 k⟩
    obtain ⟨z, hz, k1, k2⟩ := k
    have := (h.2 _ h0 h4).1 z hz
    unfold okP at this
    omega
def vecE (v : Int → Int) : AV := .agg [i64 (v 0), i64 (v 1), i64 (v 2), i64 (v 3)]
def vecC (c : List Spn) (d : Int) : Int := if rightC c = true then frontL (part c d) else 0
def single (l : List (Int × Int)) : Bool := match l with | [] => true | [x] => decide (x.1 = 1) | _ => false
def solidC (c : List Spn) : Bool := rightC c && (single (part c 0) && (single (part c 1) && (single (part c 2) && single (part c 3))))
def countC (c : List Spn) : Int := if rightC c = true then countL (part c 0) + countL (part c 1) + countL (part c 2) + countL (part c 3) else 0
def run1 (n : Int) : List (Int × Int) := if 0 < n then [(1, n)] else []
def fullC (v : Int → Int) : List Spn := whole fun d => run1 (v d)
def mayV (v : Int → Int) : Bool := (decide (0 ≤ v 0) && decide (v 0 ≤ 1099511627776)) && ((decide (0 ≤ v 1) && decide (v 1 ≤ 1099511627776)) && ((decide (0 ≤ v 2) && decide (v 2 ≤ 1099511627776)) && (decide (0 ≤ v 3) && decide (v 3 ≤ 1099511627776))))
theorem mayV_iff {v : Int → Int} : mayV v = true ↔ ∀ d : Int, 0 ≤ d → d < 4 → 0 ≤ v d ∧ v d ≤ 1099511627776 := by
  unfold mayV
  simp only [Bool.and_eq_true, decide_eq_true_eq]
  constructor
  · rintro ⟨h0, h1, h2, h3⟩; exact four h0 h1 h2 h3
  · intro k; exact ⟨k 0 (by omega) (by omega), k 1 (by omega) (by omega), k 2 (by omega) (by omega), k 3 (by omega) (by omega)⟩
theorem run1_right {n : Int} (h : n ≤ 1099511627776) : RightP (run1 n) := by
  unfold run1
  split
  · exact ⟨fun x hx => by rw [List.mem_singleton.1 hx]; exact ⟨Int.le_refl _, by dsimp only; omega, h⟩, List.pairwise_singleton _ _⟩
  · exact rightP_nil
theorem run1_single {n : Int} : single (run1 n) = true := by unfold run1; split <;> simp [single]
theorem run1_front {n : Int} (h0 : 0 ≤ n) (h : n ≤ 1099511627776) : frontL (run1 n) = n := by
  have hR := rightL_iff.2 (run1_right h)
  unfold frontL
  rw [if_pos hR]
  by_cases h1 : 0 < n
  · simp [run1, h1]
  · simp [run1, h1]; omega
theorem run1_has {n y : Int} : hasL (run1 n) y ↔ 1 ≤ y ∧ y ≤ n := by
  unfold run1
  split
  · rw [hasL_one]
  · constructor
    · rintro ⟨z, hz, _⟩; cases hz
    · intro h; omega
theorem single_front {l : List (Int × Int)} (h : RightP l) : single l = true ↔ l = run1 (frontL l) := by
  have hR := rightL_iff.2 h
  constructor
  · intro hs
    match l, hs with
    | [], _ => simp [frontL, hR, run1]
    | [x], hs =>
      have h1 : x.1 = 1 := by simpa [single] using hs
      have hx := h.1 x (List.mem_cons_self ..)
      unfold okP at hx
      have hf : frontL [x] = x.2 := by simp [frontL, hR, h1]
      rw [hf]
      unfold run1
      rw [if_pos (by omega), ← h1]
    | x :: y :: l, hs => simp [single] at hs
  · intro e
    rw [e]; exact run1_single
theorem fullC_right {v : Int → Int} (h : mayV v = true) : RightC (fullC v) := rightC_whole fun d h0 h4 => run1_right (mayV_iff.1 h d h0 h4).2
theorem solid_iff {c : List Spn} (h : RightC c) : solidC c = true ↔ ∀ d : Int, 0 ≤ d → d < 4 → single (part c d) = true := by
  unfold solidC
  rw [rightC_iff.2 h, Bool.true_and]
  simp only [Bool.and_eq_true]
  constructor
  · rintro ⟨h0, h1, h2, h3⟩; exact four h0 h1 h2 h3
  · intro k; exact ⟨k 0 (by omega) (by omega), k 1 (by omega) (by omega), k 2 (by omega) (by omega), k 3 (by omega) (by omega)⟩
theorem part_fullC (v : Int → Int) {d : Int} (h0 : 0 ≤ d) (h4 : d < 4) : part (fullC v) d = run1 (v d) := part_whole _ h0 h4
theorem fullC_solid {v : Int → Int} (h : mayV v = true) : solidC (fullC v) = true := (solid_iff (fullC_right h)).2 fun d h0 h4 => by rw [part_fullC v h0 h4]; exact run1_single
theorem fullC_vec {v : Int → Int} (h : mayV v = true) {d : Int} (h0 : 0 ≤ d) (h4 : d < 4) : vecC (fullC v) d = v d := by
  unfold vecC
  rw [if_pos (rightC_iff.2 (fullC_right h)), part_fullC v h0 h4]
  exact run1_front (mayV_iff.1 h d h0 h4).1 (mayV_iff.1 h d h0 h4).2
theorem solid_full {c : List Spn} (h : RightC c) : solidC c = true ↔ c = fullC (vecC c) := by
  rw [solid_iff h]
  have hv : ∀ d, vecC c d = frontL (part c d) := fun d => by unfold vecC; rw [if_pos (rightC_iff.2 h)]
  constructor
  · intro hs
    refine ctx_ext h.1 (rises_whole _) fun d h0 h4 => ?_
    rw [part_fullC _ h0 h4, hv d]
    exact (single_front (h.2 d h0 h4)).1 (hs d h0 h4)
  · intro e d h0 h4
    have := part_fullC (vecC c) h0 h4
    rw [← e] at this
    rw [this]; exact run1_single
/-! raised -/
def mxV (v w : Int → Int) (d : Int) : Int := mx (v d) (w d)
theorem mayV_mx {v w : Int → Int} (hv : mayV v = true) (hw : mayV w = true) : mayV (mxV v w) = true := mayV_iff.2 fun d h0 h4 => by
  have h1 := mayV_iff.1 hv d h0 h4
  have h2 := mayV_iff.1 hw d h0 h4
  unfold mxV mx
  split <;> assumption
theorem full_un {v w : Int → Int} (hv : mayV v = true) (hw : mayV w = true) : byC unL (fullC v) (fullC w) = fullC (mxV v w) := by
  refine ext_has (unC_is (fullC_right hv) (fullC_right hw)).1 (fullC_right (mayV_mx hv hw)) fun d y => ?_
  rw [(unC_is (fullC_right hv) (fullC_right hw)).2.1]
  unfold hasP
  constructor
  · rintro (⟨h0, h4, k⟩ | ⟨h0, h4, k⟩) <;> rw [part_fullC _ h0 h4, run1_has] at k <;> refine ⟨h0, h4, ?_⟩ <;> rw [part_fullC _ h0 h4, run1_has] <;> unfold mxV mx <;> split <;> omega
  · rintro ⟨h0, h4, k⟩
    rw [part_fullC _ h0 h4, run1_has] at k
    unfold mxV mx at k
    split at k
    · exact .inr ⟨h0, h4, by rw [part_fullC _ h0 h4, run1_has]; omega⟩
    · exact .inl ⟨h0, h4, by rw [part_fullC _ h0 h4, run1_has]; omega⟩
def atMost (v w : Int → Int) : Bool := decide (v 0 ≤ w 0) && (decide (v 1 ≤ w 1) && (decide (v 2 ≤ w 2) && decide (v 3 ≤ w 3)))
theorem atMost_iff {v w : Int → Int} : atMost v w = true ↔ ∀ d : Int, 0 ≤ d → d < 4 → v d ≤ w d := by
  unfold atMost
  simp only [Bool.and_eq_true, decide_eq_true_eq]
  constructor
  · rintro ⟨h0, h1, h2, h3⟩; exact four h0 h1 h2 h3
  · intro k; exact ⟨k 0 (by omega) (by omega), k 1 (by omega) (by omega), k 2 (by omega) (by omega), k 3 (by omega) (by omega)⟩
theorem full_leq {v w : Int → Int} (hv : mayV v = true) (hw : mayV w = true) : byC minusL (fullC v) (fullC w) = [] ↔ atMost v w = true := by
  rw [leq_iff (fullC_right hv) (fullC_right hw), atMost_iff]
  constructor
  · intro h d h0 h4
    have h1 := mayV_iff.1 hv d h0 h4
    have h2 := mayV_iff.1 hw d h0 h4
    by_cases hz : v d = 0
    · omega
    · have := (h d (v d) ⟨h0, h4, by rw [part_fullC _ h0 h4, run1_has]; omega⟩).2.2
      rw [part_fullC _ h0 h4, run1_has] at this
      omega
  · rintro h d y ⟨h0, h4, k⟩
    rw [part_fullC _ h0 h4, run1_has] at k
    refine ⟨h0, h4, ?_⟩
    rw [part_fullC _ h0 h4, run1_has]
    have := h d h0 h4
    omega
end Go.Proofs.Ytklionofaknjcaa
