/- What is proved: what is least among leaves, and what a right tree's leaves are. Conditions: none. -/
import Derived.Test.YtailblpjmgabjaaUa
import Derived.Test.YtailblpjmgabjaaTm
namespace Go.Proofs.Ytailblpjmgabjaa
open Go.RowKit
set_option linter.unusedVariables false
set_option linter.unusedSimpArgs false
/-! orders -/
theorem bl_irrefl : ∀ x : List UInt8, Op.bytesLess x x = false
  | [] => rfl
  | a :: x => by simp [Op.bytesLess, bl_irrefl x, UInt8.lt_irrefl]
theorem bl_trans : ∀ {x y z : List UInt8}, Op.bytesLess x y = true → Op.bytesLess y z = true → Op.bytesLess x z = true
  | _, [], _, h, _ => by cases ‹List UInt8› <;> simp [Op.bytesLess] at h
  | [], b :: y, [], _, h => by simp [Op.bytesLess] at h
  | [], b :: y, c :: z, _, _ => by simp [Op.bytesLess]
  | a :: x, b :: y, [], _, h => by simp [Op.bytesLess] at h
  | a :: x, b :: y, c :: z, h1, h2 => by
    simp only [Op.bytesLess, Bool.or_eq_true, decide_eq_true_eq, Bool.and_eq_true, beq_iff_eq] at h1 h2 ⊢
    rcases h1 with h1 | ⟨rfl, h1⟩
    · rcases h2 with h2 | ⟨rfl, h2⟩
      · exact .inl (UInt8.lt_trans h1 h2)
      · exact .inl h1
    · rcases h2 with h2 | ⟨rfl, h2⟩
      · exact .inl h2
      · exact .inr ⟨rfl, bl_trans h1 h2⟩
theorem bl_tri : ∀ x y : List UInt8, Op.bytesLess x y = true ∨ x = y ∨ Op.bytesLess y x = true
  | [], [] => .inr (.inl rfl)
  | [], b :: y => .inl rfl
  | a :: x, [] => .inr (.inr rfl)
  | a :: x, b :: y => by
    simp only [Op.bytesLess, Bool.or_eq_true, decide_eq_true_eq, Bool.and_eq_true, beq_iff_eq, List.cons.injEq]
    rcases Nat.lt_trichotomy a.toNat b.toNat with h | h | h
    · exact .inl (.inl h)
    · have : a = b := UInt8.toNat_inj.1 h
      subst this
      rcases bl_tri x y with h | h | h
      · exact .inl (.inr ⟨rfl, h⟩)
      · exact .inr (.inl ⟨rfl, h⟩)
      · exact .inr (.inr (.inr ⟨rfl, h⟩))
    · exact .inr (.inr (.inl h))
theorem gtr_eq (x y : List UInt8) : (!(Op.bytesLess x y || x == y)) = Op.bytesLess y x := by
  rcases bl_tri x y with h | h | h
  · have : Op.bytesLess y x = false := by
      cases h' : Op.bytesLess y x
      · rfl
      · have := bl_trans h h'
        rw [bl_irrefl] at this
        cases this
    rw [h, this]; rfl
  · subst h
    simp [bl_irrefl]
  · rw [h]
    have : Op.bytesLess x y = false := by
      cases h' : Op.bytesLess x y
      · rfl
      · have := bl_trans h h'
        rw [bl_irrefl] at this
        cases this
    rw [this]
    have : ¬ x = y := fun e => by rw [e, bl_irrefl] at h; cases h
    simp [this]
theorem ltDot_irrefl (a : Int × Int) : ltDot a a = false := by unfold ltDot; simp
theorem ltDot_trans {a b c : Int × Int} (h1 : ltDot a b = true) (h2 : ltDot b c = true) : ltDot a c = true := by
  unfold ltDot at *
  simp only [Bool.or_eq_true, Bool.and_eq_true, decide_eq_true_eq] at *
  omega
/-! the least one -/
section sel
variable {α : Type} (c : α → Bool) (lt : α → α → Bool)
def stepS (o : Option α) (x : α) : Option α := if (c x && (match o with | none => true | some b => lt x b)) = true then some x else o
def selS (l : List α) : Option α := l.foldl (stepS c lt) none
variable {c lt}
theorem selS_take {l : List α} {i : Nat} (h : i < l.length) : selS c lt (l.take (i + 1)) = stepS c lt (selS c lt (l.take i)) l[i] := by
  unfold selS
  rw [List.take_succ_eq_append_getElem h, List.foldl_append]
  rfl
theorem stepS_yes {o : Option α} {x : α} (h : c x = true) (hb : ∀ b, o = some b → lt x b = true) : stepS c lt o x = some x := by
  unfold stepS
  cases o with
  | none => simp [h]
  | some b => simp [h, hb b rfl]
theorem stepS_no1 {o : Option α} {x : α} (h : c x = false) : stepS c lt o x = o := by unfold stepS; simp [h]
theorem stepS_no2 {b x : α} (h : lt x b = false) : stepS c lt (some b) x = some b := by unfold stepS; simp [h]
def SelP (c : α → Bool) (lt : α → α → Bool) (p : List α) (o : Option α) : Prop :=
  (∀ b, o = some b → b ∈ p ∧ c b = true ∧ ∀ y ∈ p, c y = true → lt y b = false) ∧ (o = none → ∀ y ∈ p, c y = false)
theorem selP_step (hi : ∀ a, lt a a = false) (ht : ∀ a b d, lt a b = true → lt b d = true → lt a d = true) {p : List α} {o : Option α} (h : SelP c lt p o) (x : α) : SelP c lt (p ++ [x]) (stepS c lt o x) := by
  cases hc : c x with
  | false =>
    rw [stepS_no1 hc]
    refine ⟨fun b hb => ?_, fun hn y hy => ?_⟩
    · obtain ⟨h1, h2, h3⟩ := h.1 b hb
      refine ⟨List.mem_append_left _ h1, h2, fun y hy hcy => ?_⟩
      rcases List.mem_append.1 hy with hy | hy
      · exact h3 y hy hcy
      · rw [List.mem_singleton.1 hy, hc] at hcy; cases hcy
    · rcases List.mem_append.1 hy with hy | hy
      · exact h.2 hn y hy
      · rw [List.mem_singleton.1 hy]; exact hc
  | true =>
    cases o with
    | none =>
      rw [stepS_yes hc (fun b hb => by cases hb)]
      refine ⟨fun b hb => ?_, fun hn => by cases hn⟩
      cases hb
      refine ⟨by simp, hc, fun y hy hcy => ?_⟩
      rcases List.mem_append.1 hy with hy | hy
      · rw [h.2 rfl y hy] at hcy; cases hcy
      · rw [List.mem_singleton.1 hy]; exact hi x
    | some b =>
      obtain ⟨h1, h2, h3⟩ := h.1 b rfl
      cases hl : lt x b with
      | false =>
        rw [stepS_no2 hl]
        refine ⟨fun b' hb => ?_, fun hn => by cases hn⟩
        cases hb
        refine ⟨List.mem_append_left _ h1, h2, fun y hy hcy => ?_⟩
        rcases List.mem_append.1 hy with hy | hy
        · exact h3 y hy hcy
        · rw [List.mem_singleton.1 hy]; exact hl
      | true =>
        rw [stepS_yes hc (fun b' hb => by cases hb; exact hl)]
        refine ⟨fun b' hb => ?_, fun hn => by cases hn⟩
        cases hb
        refine ⟨by simp, hc, fun y hy hcy => ?_⟩
        rcases List.mem_append.1 hy with hy | hy
        · cases hxy : lt y x with
          | false => rfl
          | true => have := ht _ _ _ hxy hl; rw [h3 y hy hcy] at this; cases this
        · rw [List.mem_singleton.1 hy]; exact hi x
theorem selP_fold (hi : ∀ a, lt a a = false) (ht : ∀ a b d, lt a b = true → lt b d = true → lt a d = true) : ∀ (l p : List α) (o : Option α), SelP c lt p o → SelP c lt (p ++ l) (l.foldl (stepS c lt) o)
  | [], p, o, h => by simpa using h
  | x :: l, p, o, h => by
    have := selP_fold hi ht l (p ++ [x]) _ (selP_step hi ht h x)
    simpa using this
theorem selS_spec (hi : ∀ a, lt a a = false) (ht : ∀ a b d, lt a b = true → lt b d = true → lt a d = true) (l : List α) : SelP c lt l (selS c lt l) := by
  have := selP_fold (c := c) hi ht l [] none ⟨(fun b hb => by cases hb), (fun _ y hy => by cases hy)⟩
  simpa [selS] using this
end sel
def candE (A : List Ent8) (x : Leaf8) : Bool := decide (x.1.length = 0) && (match A.getLast? with | none => true | some b => ltDot b.1 x.2.1)
def ltE (x y : Leaf8) : Bool := ltDot x.2.1 y.2.1
def headK (x : Leaf8) : ByteArray := x.1.headD ⟨#[]⟩
def candK (last : ByteArray) (x : Leaf8) : Bool := decide (0 < x.1.length) && Op.bytesLess last.toList (headK x).toList
def ltK (x y : Leaf8) : Bool := Op.bytesLess (headK x).toList (headK y).toList
/-! the leaves of a right tree -/
mutual
theorem belowT_pre : ∀ (t : Tr8) (p : List ByteArray), belowT t p = (belowT t []).map (fun x => (p ++ x.1, x.2))
  | .mk es ks, p => by
    simp only [belowT, List.map_append, List.map_map, belowK_pre ks p]
    congr 1
    simp
theorem belowK_pre : ∀ (ks : List (ByteArray × Tr8)) (p : List ByteArray), belowK ks p = (belowK ks []).map (fun x => (p ++ x.1, x.2))
  | [], p => rfl
  | x :: r, p => by simp only [belowK, List.map_append, belowX_pre x p, belowK_pre r p]
theorem belowX_pre : ∀ (x : ByteArray × Tr8) (p : List ByteArray), belowX x p = (belowX x []).map (fun x => (p ++ x.1, x.2))
  | (k, t), p => by
    simp only [belowX, List.nil_append]
    rw [belowT_pre t (p ++ [k]), belowT_pre t [k], List.map_map]
    congr 1
    funext x
    simp
end
theorem mem_belowK {x : Leaf8} : ∀ {ks : List (ByteArray × Tr8)}, x ∈ belowK ks [] ↔ ∃ y ∈ ks, ∃ ps, x.1 = y.1 :: ps ∧ (ps, x.2) ∈ belowT y.2 []
  | [] => by simp [belowK]
  | z :: r => by
    rw [belowK, List.mem_append, mem_belowK, belowX_eq, belowT_pre]
    simp only [List.nil_append, List.mem_map, List.mem_cons]
    constructor
    · rintro (⟨y, hy, rfl⟩ | ⟨y, hy, h⟩)
      · exact ⟨z, .inl rfl, y.1, rfl, hy⟩
      · exact ⟨y, .inr hy, h⟩
    · rintro ⟨y, rfl | hy, ps, h1, h2⟩
      · exact .inl ⟨(ps, x.2), h2, by simp [← h1]⟩
      · exact .inr ⟨y, hy, ps, h1, h2⟩
theorem mem_below {x : Leaf8} {t : Tr8} : x ∈ belowT t [] ↔ (x.1 = [] ∧ x.2 ∈ t.es) ∨ ∃ y ∈ t.ks, ∃ ps, x.1 = y.1 :: ps ∧ (ps, x.2) ∈ belowT y.2 [] := by
  rw [belowT_eq, List.mem_append, mem_belowK]
  refine or_congr ?_ Iff.rfl
  simp only [List.mem_map]
  constructor
  · rintro ⟨e, he, rfl⟩; exact ⟨rfl, he⟩
  · rintro ⟨h1, h2⟩; exact ⟨x.2, h2, by rw [← h1]⟩
def LvT (l : List Leaf8) (t : Tr8) : Prop := ∀ x, x ∈ l ↔ x ∈ belowT t []
theorem rightT_good {d : Nat} {t : Tr8} (h : rightT (d + 1) t = true) {i : Nat} (hi : i < t.ks.length) : okKey t.ks[i].1 = true ∧ (i = 0 ∨ ltKey t.ks[i - 1].1 t.ks[i].1 = true) ∧ emptyT t.ks[i].2 = false ∧ rightT d t.ks[i].2 = true := by
  have h := rightT_kid h hi
  rw [goodK_eq hi] at h
  simpa only [Bool.and_eq_true, Bool.or_eq_true, decide_eq_true_eq, Bool.not_eq_true'] using h
theorem es_step {d : Nat} {t : Tr8} (h : rightT (d + 1) t = true) {i : Nat} (hi : i + 1 < t.es.length) : ltDot t.es[i].1 t.es[i + 1].1 = true := by
  rw [rightT, Bool.and_eq_true] at h
  have := List.all_eq_true.1 h.1 (i + 1) (List.mem_range.2 hi)
  rcases ((goodE_iff hi).1 this).2 with h' | h'
  · cases h'
  · exact h'
theorem es_lt {d : Nat} {t : Tr8} (h : rightT (d + 1) t = true) {i : Nat} : ∀ {j : Nat} (hij : i < j) (hj : j < t.es.length), ltDot t.es[i].1 t.es[j].1 = true
  | j + 1, hij, hj => by
    rcases Nat.lt_succ_iff_lt_or_eq.1 hij with hlt | rfl
    · exact ltDot_trans (es_lt h hlt (by omega)) (es_step h hj)
    · exact es_step h hj
theorem ks_lt {d : Nat} {t : Tr8} (h : rightT (d + 1) t = true) {i : Nat} : ∀ {j : Nat} (hij : i < j) (hj : j < t.ks.length), Op.bytesLess t.ks[i].1.toList t.ks[j].1.toList = true
  | j + 1, hij, hj => by
    have hs : Op.bytesLess t.ks[j].1.toList t.ks[j + 1].1.toList = true := by
      rcases (rightT_good h hj).2.1 with h' | h'
      · cases h'
      · exact h'
    rcases Nat.lt_succ_iff_lt_or_eq.1 hij with hlt | rfl
    · exact bl_trans (ks_lt h hlt (by omega)) hs
    · exact hs
theorem leaf_some : ∀ (d : Nat) (t : Tr8), rightT d t = true → emptyT t = false → ∃ x, x ∈ belowT t []
  | 0, t, h, _ => by cases h
  | d + 1, t, h, he => by
    cases hes : t.es with
    | cons e r => exact ⟨([], e), mem_below.2 (.inl ⟨rfl, by rw [hes]; exact List.mem_cons_self ..⟩)⟩
    | nil =>
      have hk : 0 < t.ks.length := by
        unfold emptyT at he
        rw [hes] at he
        simp at he
        cases hks : t.ks with
        | nil => exact absurd hks he
        | cons _ _ => simp
      obtain ⟨_, _, h1, h2⟩ := rightT_good h hk
      obtain ⟨x, hx⟩ := leaf_some d _ h2 h1
      exact ⟨(t.ks[0].1 :: x.1, x.2), mem_below.2 (.inr ⟨t.ks[0], List.getElem_mem hk, x.1, rfl, hx⟩)⟩
end Go.Proofs.Ytailblpjmgabjaa
