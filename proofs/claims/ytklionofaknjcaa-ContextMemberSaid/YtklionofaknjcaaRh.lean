/- What is proved: what chapter 06's reference By answers. Conditions: none. -/
import Derived.Test.YtklionofaknjcaaRg
namespace Go.Proofs.Ytklionofaknjcaa
open Go.RowKit
set_option linter.unusedVariables false
set_option linter.unusedSimpArgs false
set_option maxRecDepth 100000
set_option maxHeartbeats 16000000
def opH (how : Int) (p q : Bool) : Bool := if how = 1 then p && q else if how = 2 then p && !q else p || q
def opL (how : Int) (a b : List (Int × Int)) (y : Int) : Bool := opH how (a.any (inRun y)) (b.any (inRun y))
theorem any_has {l : List (Int × Int)} {y : Int} : l.any (inRun y) = true ↔ hasL l y := by
  rw [List.any_eq_true]
  simp only [inRun, Bool.and_eq_true, decide_eq_true_eq, hasL]
theorem mem_ends {l : List (Int × Int)} {p : Int} : p ∈ endsL l ↔ ∃ x ∈ l, p = x.1 ∨ p = x.2 + 1 := by
  unfold endsL
  rw [List.mem_flatMap]
  simp
theorem any_const {l : List (Int × Int)} {pl : List Int} (hsub : ∀ p ∈ endsL l, p ∈ pl) {x y : Int} (hxy : x ≤ y) (hno : ∀ p ∈ pl, x < p → y < p) : l.any (inRun y) = l.any (inRun x) := by
  rw [Bool.eq_iff_iff, any_has, any_has]
  constructor
  · rintro ⟨r, hr, h1, h2⟩
    have e1 := hno r.1 (hsub _ (mem_ends.2 ⟨r, hr, .inl rfl⟩))
    refine ⟨r, hr, ?_, by omega⟩
    by_cases h : x < r.1
    · have := e1 h; omega
    · omega
  · rintro ⟨r, hr, h1, h2⟩
    have e1 := hno (r.2 + 1) (hsub _ (mem_ends.2 ⟨r, hr, .inr rfl⟩)) (by omega)
    exact ⟨r, hr, by omega, by omega⟩
theorem opH_or {how : Int} {p q : Bool} (h : opH how p q = true) : p = true ∨ q = true := by
  unfold opH at h
  cases p <;> cases q <;> simp_all
/-- a stretch more, behind all -/
theorem ext_spec {out : List (Int × Int)} {x c : Int} (hR : RightP out) (hlt : ∀ y, hasL out y → y < x) (h1 : 1 ≤ x) (hxc : x < c) (hc : c ≤ 1099511627777) :
    (∀ init b, out = init ++ [b] → b.2 = x - 1 → RightP (init ++ [(b.1, c - 1)]) ∧ ∀ y, hasL (init ++ [(b.1, c - 1)]) y ↔ hasL out y ∨ (x ≤ y ∧ y < c)) ∧
    ((∀ init b, out = init ++ [b] → b.2 ≠ x - 1) → RightP (out ++ [(x, c - 1)]) ∧ ∀ y, hasL (out ++ [(x, c - 1)]) y ↔ hasL out y ∨ (x ≤ y ∧ y < c)) := by
  have hz2 : ∀ z ∈ out, z.2 < x := fun z hz => hlt _ ⟨z, hz, (hR.1 z hz).2.1, Int.le_refl _⟩
  constructor
  · rintro init b rfl hb
    obtain ⟨k1, k2, k3⟩ := rightP_snoc.1 hR
    unfold okP at k2
    refine ⟨rightP_snoc.2 ⟨k1, ⟨k2.1, by dsimp only; omega, by dsimp only; omega⟩, k3⟩, fun y => ?_⟩
    rw [hasL_append, hasL_append, hasL_one, hasL_one]
    dsimp only
    constructor
    · rintro (h | ⟨h4, h5⟩)
      · exact .inl (.inl h)
      · by_cases h6 : y ≤ b.2
        · exact .inl (.inr ⟨h4, h6⟩)
        · exact .inr (by omega)
    · rintro ((h | ⟨h4, h5⟩) | h)
      · exact .inl h
      · exact .inr ⟨h4, by omega⟩
      · exact .inr (by omega)
  · intro hne
    refine ⟨rightP_snoc.2 ⟨hR, ⟨h1, by dsimp only; omega, by dsimp only; omega⟩, fun z hz => ?_⟩, fun y => ?_⟩
    · have g1 := hz2 z hz
      rcases nil_or_snoc out with rfl | ⟨init, b, rfl⟩
      · cases hz
      · have h2 := hne init b rfl
        have h3 := hz2 b (by simp)
        obtain ⟨_, h5, h6⟩ := rightP_snoc.1 hR
        unfold okP at h5
        rcases List.mem_append.1 hz with hz | hz
        · have := h6 z hz; dsimp only; omega
        · rw [List.mem_singleton.1 hz]; dsimp only; omega
    · rw [hasL_append, hasL_one]
      dsimp only
      constructor
      · rintro (h | h)
        · exact .inl h
        · exact .inr (by omega)
      · rintro (h | h)
        · exact .inl h
        · exact .inr (by omega)
def IsBy (how : Int) (a b out : List (Int × Int)) : Prop := RightP out ∧ (∀ y, hasL out y ↔ opL how a b y = true)
structure ByA (how : Int) (a b : List (Int × Int)) (r : AV) : Prop where
  ex : ∃ out, IsBy how a b out ∧ out.length ≤ 2 * a.length + 2 * b.length ∧ r = lstE runE out
theorem endsL_len (l : List (Int × Int)) : (endsL l).length = 2 * l.length := by
  induction l with
  | nil => rfl
  | cons x l ih => simp only [endsL, List.flatMap_cons, List.length_append, List.length_cons, List.length_nil] at ih ⊢; omega
/-- the state between two rounds -/
structure BySt (how : Int) (a b : List (Int × Int)) (pl : List Int) (cur : Option Int) (out : List (Int × Int)) : Prop where
  R : RightP out
  m : ∀ y, hasL out y ↔ opL how a b y = true ∧ ∀ c, cur = some c → y < c
theorem by_start {how : Int} {a b : List (Int × Int)} {pl : List Int} (hpl : pl = endsL a ++ endsL b) (ha : RightP a) (hb : RightP b) : BySt how a b pl (pl.foldl (nextF 0) none) [] := by
  refine ⟨⟨by simp, List.Pairwise.nil⟩, fun y => ⟨fun h => absurd h not_hasL_nil, fun ⟨h1, h2⟩ => ?_⟩⟩
  have hsp := next_spec (above := 0) pl none (by simp)
  have key : ∃ p ∈ pl, 0 < p ∧ p ≤ y := by
    rcases opH_or h1 with h | h
    · obtain ⟨r, hr, k1, k2⟩ := any_has.1 h
      exact ⟨r.1, by rw [hpl]; exact List.mem_append_left _ (mem_ends.2 ⟨r, hr, .inl rfl⟩), by have := ha.1 r hr; unfold okP at this; omega, k1⟩
    · obtain ⟨r, hr, k1, k2⟩ := any_has.1 h
      exact ⟨r.1, by rw [hpl]; exact List.mem_append_right _ (mem_ends.2 ⟨r, hr, .inl rfl⟩), by have := hb.1 r hr; unfold okP at this; omega, k1⟩
  obtain ⟨p, hp, hp0, hpy⟩ := key
  exfalso
  cases hc : pl.foldl (nextF 0) none with
  | none => rw [hc] at hsp; exact hsp.2 p hp hp0
  | some c => rw [hc] at hsp; have := hsp.2.2.1 p hp hp0; have := h2 c hc; omega
section
variable {how : Int} {a b : List (Int × Int)} {pl : List Int} {x : Int} {out : List (Int × Int)}
theorem by_const (hpl : pl = endsL a ++ endsL b) {y : Int} (hxy : x ≤ y) (h : ∀ c, pl.foldl (nextF x) none = some c → y < c) : opL how a b y = opL how a b x := by
  have hsp := next_spec (above := x) pl none (by simp)
  have hno : ∀ p ∈ pl, x < p → y < p := fun p hp hxp => by
    cases hc : pl.foldl (nextF x) none with
    | none => rw [hc] at hsp; exact absurd hxp (hsp.2 p hp)
    | some c => rw [hc] at hsp; have := hsp.2.2.1 p hp hxp; have := h c hc; omega
  unfold opL
  rw [any_const (fun p hp => by rw [hpl]; exact List.mem_append_left _ hp) hxy hno, any_const (fun p hp => by rw [hpl]; exact List.mem_append_right _ hp) hxy hno]
theorem by_skip (hpl : pl = endsL a ++ endsL b) (hS : BySt how a b pl (some x) out) (ho : opL how a b x = false) : BySt how a b pl (pl.foldl (nextF x) none) out := by
  have hsp := next_spec (above := x) pl none (by simp)
  refine ⟨hS.R, fun y => (hS.m y).trans ⟨fun ⟨h1, h2⟩ => ⟨h1, fun c hc => ?_⟩, fun ⟨h1, h2⟩ => ⟨h1, fun c hc => ?_⟩⟩⟩
  · have := h2 x rfl
    rw [hc] at hsp
    have := hsp.1
    omega
  · cases hc
    rcases Int.lt_or_le y x with h | h
    · exact h
    · rw [by_const hpl h h2, ho] at h1; cases h1
/-- x is in: there is a place behind it -/
theorem by_in (hpl : pl = endsL a ++ endsL b) (ha : RightP a) (hb : RightP b) (ho : opL how a b x = true) : ∃ c, pl.foldl (nextF x) none = some c ∧ 1 ≤ x ∧ x < c ∧ c ≤ 1099511627777 := by
  have hsp := next_spec (above := x) pl none (by simp)
  have key : ∃ p ∈ pl, x < p ∧ p ≤ 1099511627777 ∧ 1 ≤ x := by
    rcases opH_or ho with h | h
    · obtain ⟨r, hr, k1, k2⟩ := any_has.1 h
      have := ha.1 r hr
      unfold okP at this
      exact ⟨r.2 + 1, by rw [hpl]; exact List.mem_append_left _ (mem_ends.2 ⟨r, hr, .inr rfl⟩), by omega, by omega, by omega⟩
    · obtain ⟨r, hr, k1, k2⟩ := any_has.1 h
      have := hb.1 r hr
      unfold okP at this
      exact ⟨r.2 + 1, by rw [hpl]; exact List.mem_append_right _ (mem_ends.2 ⟨r, hr, .inr rfl⟩), by omega, by omega, by omega⟩
  obtain ⟨p, hp, h1, h2, h3⟩ := key
  cases hc : pl.foldl (nextF x) none with
  | none => rw [hc] at hsp; exact absurd h1 (hsp.2 p hp)
  | some c => rw [hc] at hsp; exact ⟨c, rfl, h3, hsp.1, by have := hsp.2.2.1 p hp h1; omega⟩
theorem by_more (hpl : pl = endsL a ++ endsL b) (hS : BySt how a b pl (some x) out) (ho : opL how a b x = true) {c : Int} (hc : pl.foldl (nextF x) none = some c) {out' : List (Int × Int)} (hR : RightP out') (hm : ∀ y, hasL out' y ↔ hasL out y ∨ (x ≤ y ∧ y < c)) : BySt how a b pl (some c) out' := by
  have hsp := next_spec (above := x) pl none (by simp)
  rw [hc] at hsp
  refine ⟨hR, fun y => ?_⟩
  rw [hm y, hS.m y]
  constructor
  · rintro (⟨h1, h2⟩ | ⟨h1, h2⟩)
    · exact ⟨h1, fun c' hc' => by cases hc'; have := h2 x rfl; have := hsp.1; omega⟩
    · exact ⟨by rw [by_const hpl h1 (fun c' hc' => by rw [hc] at hc'; cases hc'; exact h2), ho], fun c' hc' => by cases hc'; exact h2⟩
  · rintro ⟨h1, h2⟩
    rcases Int.lt_or_le y x with h | h
    · exact .inl ⟨h1, fun c' hc' => by cases hc'; exact h⟩
    · exact .inr ⟨h, h2 c rfl⟩
end
theorem place_le {a b : List (Int × Int)} {pl : List Int} (hpl : pl = endsL a ++ endsL b) (ha : RightP a) (hb : RightP b) {x : Int} (hx : x ∈ pl) : x ≤ 1099511627777 := by
  rw [hpl] at hx
  rcases List.mem_append.1 hx with h | h
  · obtain ⟨r, hr, h1⟩ := mem_ends.1 h
    have := ha.1 r hr
    unfold okP at this
    omega
  · obtain ⟨r, hr, h1⟩ := mem_ends.1 h
    have := hb.1 r hr
    unfold okP at this
    omega
theorem next_b (l : List Int) {n : Nat} {rows : List (List AV)} (h1 : n = l.length) (h2 : rows = l.map intE) (hn : l.length ≤ 1000000) (above : Int) {o : Option Int} (ho : l.foldl (nextF above) none = o) : AFnP Try.prog 64 [.lst n rows, i64 above] (nextE o) := by
  subst h1; subst h2; subst ho; exact next_a l hn above
theorem next_none (l : List Int) {n : Nat} {rows : List (List AV)} (h1 : n = l.length) (h2 : rows = l.map intE) (hn : l.length ≤ 1000000) (above : Int) (ho : l.foldl (nextF above) none = none) : AFnP Try.prog 64 [.lst n rows, i64 above] (.tup [i64 0, .bool false]) := next_b l h1 h2 hn above ho
theorem next_some (l : List Int) {n : Nat} {rows : List (List AV)} (h1 : n = l.length) (h2 : rows = l.map intE) (hn : l.length ≤ 1000000) (above : Int) {c : Int} (ho : l.foldl (nextF above) none = some c) : AFnP Try.prog 64 [.lst n rows, i64 above] (.tup [i64 c, .bool true]) := next_b l h1 h2 hn above ho
theorem rhas_b (l : List (Int × Int)) (hn : l.length ≤ 1000000) (n : Int) {t : Bool} (h : l.any (inRun n) = t) : AFnP Try.prog 49 [lstE runE l, i64 n] (.bool t) := by
  subst h; exact rhas_a l hn n
end Go.Proofs.Ytklionofaknjcaa
