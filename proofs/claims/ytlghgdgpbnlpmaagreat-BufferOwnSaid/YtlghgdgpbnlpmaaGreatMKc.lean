/- What is proved: what chapter 06's reference Of and By answer. Conditions: none. -/
import Derived.Test.YtlghgdgpbnlpmaaGreatMKb
import Derived.Test.YtlghgdgpbnlpmaaGreatMTb
import Derived.Test.YtlghgdgpbnlpmaaGreatMTa
namespace Go.Proofs.YtlghgdgpbnlpmaaGreat
open Go.RowKit
set_option linter.unusedVariables false
set_option linter.unusedSimpArgs false
set_option maxRecDepth 100000
set_option maxHeartbeats 8000000
theorem cnt_step {p x : Int} (h : p < x) : ∀ {l : List Int}, x ∈ l → l.countP (fun z => decide (z ≤ p)) + 1 ≤ l.countP (fun z => decide (z ≤ x))
  | z :: l, hx => by
    have hm : l.countP (fun z => decide (z ≤ p)) ≤ l.countP (fun z => decide (z ≤ x)) := List.countP_mono_left fun y _ hy => by simp only [decide_eq_true_eq] at hy ⊢; omega
    rw [List.countP_cons, List.countP_cons]
    by_cases hz : z = x
    · subst hz
      have h1 : decide (z ≤ p) = false := decide_eq_false (by omega)
      have h2 : decide (z ≤ z) = true := decide_eq_true (Int.le_refl _)
      simp only [h1, h2, if_true, Bool.false_eq_true, if_false]
      omega
    · have hx' : x ∈ l := by
        rcases List.mem_cons.1 hx with h' | h'
        · exact absurd h'.symm hz
        · exact h'
      have ih := cnt_step h hx'
      have : (if decide (z ≤ p) = true then 1 else 0) ≤ (if decide (z ≤ x) = true then 1 else 0) := by
        by_cases h1 : z ≤ p
        · have h2 : z ≤ x := by omega
          simp [h1, h2]
        · simp [h1]
      omega
structure ROf (l : List Int) (r : AV) : Prop where
  ex : ∃ out, IsOf l out ∧ out.length ≤ l.length ∧ r = lstE runE out
theorem rof_a (l : List Int) (hn : l.length ≤ 1000000) (hok : l.all okNum = true) : AFnR Tryz.prog 126 [lstE intE l] (ROf l) := by
  have hok2 : ∀ x ∈ l, 1 ≤ x ∧ x ≤ 1099511627776 := fun x hx => by
    have := List.all_eq_true.1 hok x hx
    simpa only [okNum, Bool.and_eq_true, decide_eq_true_eq] using this
  refine afnr_in ty_ok Tryz.call126 Tryz.func126 rfl rfl (by decide +kernel) ?_
  (try conv=>whnf)<;>repeat'((first|exact sNo|refine sT ?_|refine sF ?_|((first|refine sD ?_ ?_|refine sE ?_ ?_|refine sN ?_ ?_|refine sG ?_ ?_)<;>intro ht<;>(first|(cases ht;done)|skip))|refine wr ?_|refine ix ?_|refine ati ?_|refine row ?_|refine app ?_|refine dr ?_|refine VAnd.mk ?_ ?_|exact VJe.mk rfl ⟨rfl,rfl⟩|refine .inl (slM ?_)|refine .inl (slO ?_)|refine slM ?_|refine slO ?_|refine slN ?_|refine slS ?_|refine swB (swM fun C hC=>?_)|refine sj ?_|refine .inl (sv ?_)|refine sv ?_|refine cl ?_|refine s3 ?_|refine az ?_|refine rm ?_|refine VBs.own ?_|refine cf (next_a l hn _) ?_|refine cg (next_a l hn _) ?_|refine cz (next_a l hn _) ?_|fail)<;>(try conv=>whnf))
  all_goals
    refine VLp.mk ⟨[.slot 3 181 2], [], [3, 4, 5], fun k vs h => ∃ (prev : Int) (out : List (Int × Int)), vs = [.own 0 out.length, i64 ((l.foldl (nextF prev) none).getD 0), .bool (l.foldl (nextF prev) none).isSome] ∧ h = [.row 0 181 2 (out.map runE)] ∧ 0 ≤ prev ∧ k = (1099511627776 - prev).toNat ∧ RightP out ∧ (∀ y, hasL out y ↔ y ∈ l ∧ y ≤ prev) ∧ out.length ≤ l.countP (fun z => decide (z ≤ prev)), 1099511627776, ?_⟩
    conv => whnf
    refine ⟨⟨0, [], by rw [ht]; rfl, rfl, by omega, by omega, ⟨by simp, List.Pairwise.nil⟩, fun y => ⟨fun h => absurd h not_hasL_nil, fun ⟨h1, h2⟩ => by have := hok2 y h1; omega⟩, Nat.zero_le _⟩, ?_⟩
    rintro k vs h ⟨prev, out, rfl, rfl, hp0, rfl, hR, hm, hlen⟩
    have hsp := next_spec (above := prev) l none (by simp)
    cases hcur : l.foldl (nextF prev) none with
    | none =>
      rw [hcur] at hsp
      (try conv=>whnf)<;>repeat'((first|exact sNo|refine sT ?_|refine sF ?_|((first|refine sD ?_ ?_|refine sE ?_ ?_|refine sN ?_ ?_|refine sG ?_ ?_)<;>intro ht<;>(first|(cases ht;done)|skip))|refine wr ?_|refine ix ?_|refine ati ?_|refine row ?_|refine app ?_|refine dr ?_|refine VAnd.mk ?_ ?_|exact VJe.mk rfl ⟨rfl,rfl⟩|refine .inl (slM ?_)|refine .inl (slO ?_)|refine slM ?_|refine slO ?_|refine slN ?_|refine slS ?_|refine swB (swM fun C hC=>?_)|refine sj ?_|refine .inl (sv ?_)|refine sv ?_|refine cl ?_|refine s3 ?_|refine az ?_|refine rm ?_|refine VBs.own ?_|fail)<;>(try conv=>whnf))
      have hcl := List.countP_le_length (p := fun z => decide (z ≤ prev)) (l := l)
      refine ⟨⟨out, ⟨hR, fun y => ?_⟩, by omega, rfl⟩⟩
      rw [hm y]
      exact ⟨fun h => h.1, fun h => ⟨h, by have := hsp.2 y h; omega⟩⟩
    | some x =>
      rw [hcur] at hsp
      obtain ⟨hlt, hxm, hmin, -⟩ := hsp
      have hx : x ∈ l := by rcases hxm with h | h; cases h; exact h
      have hx1 := hok2 x hx
      obtain ⟨hA, hB⟩ := snoc_spec hR hm hx hlt hmin hx1
      clear hcur
      simp only [Option.getD_some, Option.isSome_some]
      have hcs := cnt_step hlt hx
      have hcl := List.countP_le_length (p := fun z => decide (z ≤ x)) (l := l)
      rcases nil_or_snoc out with rfl | ⟨init, b, rfl⟩
      · obtain ⟨hR2, hm2⟩ := hB (fun init b h => by simp at h)
        have hz : ([] : List (Int × Int)).length = 0 := rfl
        (try conv=>whnf)<;>repeat'((first|exact sNo|refine sT ?_|refine sF ?_|((first|refine sD ?_ ?_|refine sE ?_ ?_|refine sN ?_ ?_|refine sG ?_ ?_)<;>intro ht<;>(first|(cases ht;done)|skip))|refine wr ?_|refine ix ?_|refine ati ?_|refine row ?_|refine app ?_|refine dr ?_|refine VAnd.mk ?_ ?_|exact VJe.mk rfl ⟨rfl,rfl⟩|refine .inl (slM ?_)|refine .inl (slO ?_)|refine slM ?_|refine slO ?_|refine slN ?_|refine slS ?_|refine swB (swM fun C hC=>?_)|refine sj ?_|refine .inl (sv ?_)|refine sv ?_|refine cl ?_|refine s3 ?_|refine az ?_|refine rm ?_|refine VBs.own ?_|refine cf (next_a l hn _) ?_|refine cg (next_a l hn _) ?_|refine cz (next_a l hn _) ?_|fail)<;>(try conv=>whnf))
        all_goals first
          | exact VRd.mk rfl ⟨(1099511627776 - x).toNat, by omega, x, [(x, x)], by rw [ht]; rfl, rfl, by omega, rfl, hR2, hm2, by simp only [List.length_cons, List.length_nil] at hlen ⊢; omega⟩
      · obtain ⟨_, hbo, _⟩ := rightP_snoc.1 hR
        unfold okP at hbo
        have hlen' : (init ++ [b]).length = init.length + 1 := by simp
        have hj : ((init.length + 1 : Nat) : Int) - 1 = (init.length : Int) := by omega
        have hlast : ((init ++ [b]).map runE)[init.length]? = some (runE b) := by simp
        rw [hlen'] at hlen ⊢
        by_cases hb : b.2 = x - 1
        · obtain ⟨hR2, hm2⟩ := hA init b rfl hb
          (try conv=>whnf)<;>repeat'((first|exact sNo|refine sT ?_|refine sF ?_|((first|refine sD ?_ ?_|refine sE ?_ ?_|refine sN ?_ ?_|refine sG ?_ ?_)<;>intro ht<;>(first|(cases ht;done)|skip))|refine wr ?_|refine ix ?_|refine ati ?_|refine row ?_|refine app ?_|refine dr ?_|refine VAnd.mk ?_ ?_|exact VJe.mk rfl ⟨rfl,rfl⟩|refine .inl (slM ?_)|refine .inl (slO ?_)|refine slM ?_|refine slO ?_|refine slN ?_|refine slS ?_|refine swB (swM fun C hC=>?_)|refine sj ?_|refine .inl (sv ?_)|refine sv ?_|refine cl ?_|refine s3 ?_|refine az ?_|refine rm ?_|refine VBs.own ?_|refine cf (next_a l hn _) ?_|refine cg (next_a l hn _) ?_|refine cz (next_a l hn _) ?_|fail)<;>(try conv=>whnf))
          all_goals first
            | exact VRd.mk rfl ⟨(1099511627776 - x).toNat, by omega, x, init ++ [(b.1, x)], by simp [i64, ht], by simp [runE], by omega, rfl, hR2, hm2, by simp; omega⟩
        · obtain ⟨hR2, hm2⟩ := hB (fun i2 b2 h h2 => hb (by
            have := List.append_inj' h rfl
            simp only [List.cons.injEq, and_true] at this
            rw [this.2]; exact h2))
          (try conv=>whnf)<;>repeat'((first|exact sNo|refine sT ?_|refine sF ?_|((first|refine sD ?_ ?_|refine sE ?_ ?_|refine sN ?_ ?_|refine sG ?_ ?_)<;>intro ht<;>(first|(cases ht;done)|skip))|refine wr ?_|refine ix ?_|refine ati ?_|refine row ?_|refine app ?_|refine dr ?_|refine VAnd.mk ?_ ?_|exact VJe.mk rfl ⟨rfl,rfl⟩|refine .inl (slM ?_)|refine .inl (slO ?_)|refine slM ?_|refine slO ?_|refine slN ?_|refine slS ?_|refine swB (swM fun C hC=>?_)|refine sj ?_|refine .inl (sv ?_)|refine sv ?_|refine cl ?_|refine s3 ?_|refine az ?_|refine rm ?_|refine VBs.own ?_|refine cf (next_a l hn _) ?_|refine cg (next_a l hn _) ?_|refine cz (next_a l hn _) ?_|fail)<;>(try conv=>whnf))
          all_goals first
            | exact VRd.mk rfl ⟨(1099511627776 - x).toNat, by omega, x, init ++ [b] ++ [(x, x)], by simp [i64, ht], by simp [runE], by omega, rfl, hR2, hm2, by simp; omega⟩
end Go.Proofs.YtlghgdgpbnlpmaaGreat
/- What is proved: what chapter 06's reference By answers. Conditions: none. -/
namespace Go.Proofs.YtlghgdgpbnlpmaaGreat
open Go.RowKit
set_option linter.unusedVariables false
set_option linter.unusedSimpArgs false
set_option maxRecDepth 100000
set_option maxHeartbeats 16000000
def opH (how : Int) (p q : Bool) : Bool := if how = 1 then p && q else if how = 2 then p && !q else p || q
def opL (how : Int) (a b : List (Int × Int)) (y : Int) : Bool := opH how (a.any (inRun y)) (b.any (inRun y))
theorem any_has {l : List (Int × Int)} {y : Int} : l.any (inRun y) = true ↔ hasL l y := by
  rw [List.any_eq_true]
  simp only [inRun, Bool.and_eq_true, decide_eq_true_eq, hasL]
theorem mem_ends {l : List (Int × Int)} {p : Int} : p ∈ endsL l ↔ ∃ x ∈ l, p = x.1 ∨ p = x.2 + 1 := by
  unfold endsL
  rw [List.mem_flatMap]
  simp
theorem any_const {l : List (Int × Int)} {pl : List Int} (hsub : ∀ p ∈ endsL l, p ∈ pl) {x y : Int} (hxy : x ≤ y) (hno : ∀ p ∈ pl, x < p → y < p) : l.any (inRun y) = l.any (inRun x) := by
  rw [Bool.eq_iff_iff, any_has, any_has]
  constructor
  · rintro ⟨r, hr, h1, h2⟩
    have e1 := hno r.1 (hsub _ (mem_ends.2 ⟨r, hr, .inl rfl⟩))
    refine ⟨r, hr, ?_, by omega⟩
    by_cases h : x < r.1
    · have := e1 h; omega
    · omega
  · rintro ⟨r, hr, h1, h2⟩
    have e1 := hno (r.2 + 1) (hsub _ (mem_ends.2 ⟨r, hr, .inr rfl⟩)) (by omega)
    exact ⟨r, hr, by omega, by omega⟩
theorem opH_or {how : Int} {p q : Bool} (h : opH how p q = true) : p = true ∨ q = true := by
  unfold opH at h
  cases p <;> cases q <;> simp_all
/-- a stretch more, behind all -/
theorem ext_spec {out : List (Int × Int)} {x c : Int} (hR : RightP out) (hlt : ∀ y, hasL out y → y < x) (h1 : 1 ≤ x) (hxc : x < c) (hc : c ≤ 1099511627777) :
    (∀ init b, out = init ++ [b] → b.2 = x - 1 → RightP (init ++ [(b.1, c - 1)]) ∧ ∀ y, hasL (init ++ [(b.1, c - 1)]) y ↔ hasL out y ∨ (x ≤ y ∧ y < c)) ∧
    ((∀ init b, out = init ++ [b] → b.2 ≠ x - 1) → RightP (out ++ [(x, c - 1)]) ∧ ∀ y, hasL (out ++ [(x, c - 1)]) y ↔ hasL out y ∨ (x ≤ y ∧ y < c)) := by
  have hz2 : ∀ z ∈ out, z.2 < x := fun z hz => hlt _ ⟨z, hz, (hR.1 z hz).2.1, Int.le_refl _⟩
  constructor
  · rintro init b rfl hb
    obtain ⟨k1, k2, k3⟩ := rightP_snoc.1 hR
    unfold okP at k2
    refine ⟨rightP_snoc.2 ⟨k1, ⟨k2.1, by dsimp only; omega, by dsimp only; omega⟩, k3⟩, fun y => ?_⟩
    rw [hasL_append, hasL_append, hasL_one, hasL_one]
    dsimp only
    constructor
    · rintro (h | ⟨h4, h5⟩)
      · exact .inl (.inl h)
      · by_cases h6 : y ≤ b.2
        · exact .inl (.inr ⟨h4, h6⟩)
        · exact .inr (by omega)
    · rintro ((h | ⟨h4, h5⟩) | h)
      · exact .inl h
      · exact .inr ⟨h4, by omega⟩
      · exact .inr (by omega)
  · intro hne
    refine ⟨rightP_snoc.2 ⟨hR, ⟨h1, by dsimp only; omega, by dsimp only; omega⟩, fun z hz => ?_⟩, fun y => ?_⟩
    · have g1 := hz2 z hz
      rcases nil_or_snoc out with rfl | ⟨init, b, rfl⟩
      · cases hz
      · have h2 := hne init b rfl
        have h3 := hz2 b (by simp)
        obtain ⟨_, h5, h6⟩ := rightP_snoc.1 hR
        unfold okP at h5
        rcases List.mem_append.1 hz with hz | hz
        · have := h6 z hz; dsimp only; omega
        · rw [List.mem_singleton.1 hz]; dsimp only; omega
    · rw [hasL_append, hasL_one]
      dsimp only
      constructor
      · rintro (h | h)
        · exact .inl h
        · exact .inr (by omega)
      · rintro (h | h)
        · exact .inl h
        · exact .inr (by omega)
def IsBy (how : Int) (a b out : List (Int × Int)) : Prop := RightP out ∧ (∀ y, hasL out y ↔ opL how a b y = true)
structure ByA (how : Int) (a b : List (Int × Int)) (r : AV) : Prop where
  ex : ∃ out, IsBy how a b out ∧ out.length ≤ 2 * a.length + 2 * b.length ∧ r = lstE runE out
theorem endsL_len (l : List (Int × Int)) : (endsL l).length = 2 * l.length := by
  induction l with
  | nil => rfl
  | cons x l ih => simp only [endsL, List.flatMap_cons, List.length_append, List.length_cons, List.length_nil] at ih ⊢; omega
/-- the state between two rounds -/
structure BySt (how : Int) (a b : List (Int × Int)) (pl : List Int) (cur : Option Int) (out : List (Int × Int)) : Prop where
  R : RightP out
  m : ∀ y, hasL out y ↔ opL how a b y = true ∧ ∀ c, cur = some c → y < c
theorem by_start {how : Int} {a b : List (Int × Int)} {pl : List Int} (hpl : pl = endsL a ++ endsL b) (ha : RightP a) (hb : RightP b) : BySt how a b pl (pl.foldl (nextF 0) none) [] := by
  refine ⟨⟨by simp, List.Pairwise.nil⟩, fun y => ⟨fun h => absurd h not_hasL_nil, fun ⟨h1, h2⟩ => ?_⟩⟩
  have hsp := next_spec (above := 0) pl none (by simp)
  have key : ∃ p ∈ pl, 0 < p ∧ p ≤ y := by
    rcases opH_or h1 with h | h
    · obtain ⟨r, hr, k1, k2⟩ := any_has.1 h
      exact ⟨r.1, by rw [hpl]; exact List.mem_append_left _ (mem_ends.2 ⟨r, hr, .inl rfl⟩), by have := ha.1 r hr; unfold okP at this; omega, k1⟩
    · obtain ⟨r, hr, k1, k2⟩ := any_has.1 h
      exact ⟨r.1, by rw [hpl]; exact List.mem_append_right _ (mem_ends.2 ⟨r, hr, .inl rfl⟩), by have := hb.1 r hr; unfold okP at this; omega, k1⟩
  obtain ⟨p, hp, hp0, hpy⟩ := key
  exfalso
  cases hc : pl.foldl (nextF 0) none with
  | none => rw [hc] at hsp; exact hsp.2 p hp hp0
  | some c => rw [hc] at hsp; have := hsp.2.2.1 p hp hp0; have := h2 c hc; omega
section
variable {how : Int} {a b : List (Int × Int)} {pl : List Int} {x : Int} {out : List (Int × Int)}
theorem by_const (hpl : pl = endsL a ++ endsL b) {y : Int} (hxy : x ≤ y) (h : ∀ c, pl.foldl (nextF x) none = some c → y < c) : opL how a b y = opL how a b x := by
  have hsp := next_spec (above := x) pl none (by simp)
  have hno : ∀ p ∈ pl, x < p → y < p := fun p hp hxp => by
    cases hc : pl.foldl (nextF x) none with
    | none => rw [hc] at hsp; exact absurd hxp (hsp.2 p hp)
    | some c => rw [hc] at hsp; have := hsp.2.2.1 p hp hxp; have := h c hc; omega
  unfold opL
  rw [any_const (fun p hp => by rw [hpl]; exact List.mem_append_left _ hp) hxy hno, any_const (fun p hp => by rw [hpl]; exact List.mem_append_right _ hp) hxy hno]
theorem by_skip (hpl : pl = endsL a ++ endsL b) (hS : BySt how a b pl (some x) out) (ho : opL how a b x = false) : BySt how a b pl (pl.foldl (nextF x) none) out := by
  have hsp := next_spec (above := x) pl none (by simp)
  refine ⟨hS.R, fun y => (hS.m y).trans ⟨fun ⟨h1, h2⟩ => ⟨h1, fun c hc => ?_⟩, fun ⟨h1, h2⟩ => ⟨h1, fun c hc => ?_⟩⟩⟩
  · have := h2 x rfl
    rw [hc] at hsp
    have := hsp.1
    omega
  · cases hc
    rcases Int.lt_or_le y x with h | h
    · exact h
    · rw [by_const hpl h h2, ho] at h1; cases h1
/-- x is in: there is a place behind it -/
theorem by_in (hpl : pl = endsL a ++ endsL b) (ha : RightP a) (hb : RightP b) (ho : opL how a b x = true) : ∃ c, pl.foldl (nextF x) none = some c ∧ 1 ≤ x ∧ x < c ∧ c ≤ 1099511627777 := by
  have hsp := next_spec (above := x) pl none (by simp)
  have key : ∃ p ∈ pl, x < p ∧ p ≤ 1099511627777 ∧ 1 ≤ x := by
    rcases opH_or ho with h | h
    · obtain ⟨r, hr, k1, k2⟩ := any_has.1 h
      have := ha.1 r hr
      unfold okP at this
      exact ⟨r.2 + 1, by rw [hpl]; exact List.mem_append_left _ (mem_ends.2 ⟨r, hr, .inr rfl⟩), by omega, by omega, by omega⟩
    · obtain ⟨r, hr, k1, k2⟩ := any_has.1 h
      have := hb.1 r hr
      unfold okP at this
      exact ⟨r.2 + 1, by rw [hpl]; exact List.mem_append_right _ (mem_ends.2 ⟨r, hr, .inr rfl⟩), by omega, by omega, by omega⟩
  obtain ⟨p, hp, h1, h2, h3⟩ := key
  cases hc : pl.foldl (nextF x) none with
  | none => rw [hc] at hsp; exact absurd h1 (hsp.2 p hp)
  | some c => rw [hc] at hsp; exact ⟨c, rfl, h3, hsp.1, by have := hsp.2.2.1 p hp h1; omega⟩
theorem by_more (hpl : pl = endsL a ++ endsL b) (hS : BySt how a b pl (some x) out) (ho : opL how a b x = true) {c : Int} (hc : pl.foldl (nextF x) none = some c) {out' : List (Int × Int)} (hR : RightP out') (hm : ∀ y, hasL out' y ↔ hasL out y ∨ (x ≤ y ∧ y < c)) : BySt how a b pl (some c) out' := by
  have hsp := next_spec (above := x) pl none (by simp)
  rw [hc] at hsp
  refine ⟨hR, fun y => ?_⟩
  rw [hm y, hS.m y]
  constructor
  · rintro (⟨h1, h2⟩ | ⟨h1, h2⟩)
    · exact ⟨h1, fun c' hc' => by cases hc'; have := h2 x rfl; have := hsp.1; omega⟩
    · exact ⟨by rw [by_const hpl h1 (fun c' hc' => by rw [hc] at hc'; cases hc'; exact h2), ho], fun c' hc' => by cases hc'; exact h2⟩
  · rintro ⟨h1, h2⟩
    rcases Int.lt_or_le y x with h | h
    · exact .inl ⟨h1, fun c' hc' => by cases hc'; exact h⟩
    · exact .inr ⟨h, h2 c rfl⟩
end
theorem place_le {a b : List (Int × Int)} {pl : List Int} (hpl : pl = endsL a ++ endsL b) (ha : RightP a) (hb : RightP b) {x : Int} (hx : x ∈ pl) : x ≤ 1099511627777 := by
  rw [hpl] at hx
  rcases List.mem_append.1 hx with h | h
  · obtain ⟨r, hr, h1⟩ := mem_ends.1 h
    have := ha.1 r hr
    unfold okP at this
    omega
  · obtain ⟨r, hr, h1⟩ := mem_ends.1 h
    have := hb.1 r hr
    unfold okP at this
    omega
theorem next_b (l : List Int) {n : Nat} {rows : List (List AV)} (h1 : n = l.length) (h2 : rows = l.map intE) (hn : l.length ≤ 1000000) (above : Int) {o : Option Int} (ho : l.foldl (nextF above) none = o) : AFnP Tryz.prog 123 [.lst n rows, i64 above] (nextE o) := by
  subst h1; subst h2; subst ho; exact next_a l hn above
theorem next_none (l : List Int) {n : Nat} {rows : List (List AV)} (h1 : n = l.length) (h2 : rows = l.map intE) (hn : l.length ≤ 1000000) (above : Int) (ho : l.foldl (nextF above) none = none) : AFnP Tryz.prog 123 [.lst n rows, i64 above] (.tup [i64 0, .bool false]) := next_b l h1 h2 hn above ho
theorem next_some (l : List Int) {n : Nat} {rows : List (List AV)} (h1 : n = l.length) (h2 : rows = l.map intE) (hn : l.length ≤ 1000000) (above : Int) {c : Int} (ho : l.foldl (nextF above) none = some c) : AFnP Tryz.prog 123 [.lst n rows, i64 above] (.tup [i64 c, .bool true]) := next_b l h1 h2 hn above ho
theorem rhas_b (l : List (Int × Int)) (hn : l.length ≤ 1000000) (n : Int) {t : Bool} (h : l.any (inRun n) = t) : AFnP Tryz.prog 124 [lstE runE l, i64 n] (.bool t) := by
  subst h; exact rhas_a l hn n
end Go.Proofs.YtlghgdgpbnlpmaaGreat
/- What is proved: what chapter 06's reference By answers: the walk. Conditions: none. -/
namespace Go.Proofs.YtlghgdgpbnlpmaaGreat
open Go.RowKit
set_option linter.unusedVariables false
set_option linter.unusedSimpArgs false
set_option maxRecDepth 100000
set_option maxHeartbeats 16000000
theorem by_a (how : Int) (hh : how = 0 ∨ how = 1 ∨ how = 2) (a b : List (Int × Int)) (ha : a.length ≤ 1000) (hb : b.length ≤ 1000) (hra : rightL a = true) (hrb : rightL b = true) : AFnR Tryz.prog 99 [lstE runE a, lstE runE b, i64 how] (ByA how a b) := by
  have hRa := rightL_iff.1 hra
  have hRb := rightL_iff.1 hrb
  obtain ⟨pl, hpl⟩ : ∃ pl, pl = endsL a ++ endsL b := ⟨_, rfl⟩
  have hpl1 : (endsL a).length + (endsL b).length = pl.length := by rw [hpl, List.length_append]
  have hpl2 : (endsL a).map intE ++ (endsL b).map intE = pl.map intE := by rw [hpl, List.map_append]
  have hpn : pl.length ≤ 1000000 := by rw [← hpl1, endsL_len, endsL_len]; omega
  have hpn2 : pl.length = 2 * a.length + 2 * b.length := by rw [← hpl1, endsL_len, endsL_len]
  refine afnr_in ty_ok Tryz.call99 Tryz.func99 rfl rfl (by decide +kernel) ?_
  have hE1 := ends_a a (by omega) hra
  have hE2 := ends_a b (by omega) hrb
  rcases hc0 : pl.foldl (nextF 0) none with _ | x0
  · have hst := by_start (how := how) hpl hRa hRb
    rw [hc0] at hst
    have hN := fun n rows h1 h2 => next_none pl (n := n) (rows := rows) h1 h2 hpn 0 hc0
    (try conv=>whnf)<;>repeat'((first|exact sNo|refine sT ?_|refine sF ?_|((first|refine sD ?_ ?_|refine sE ?_ ?_|refine sN ?_ ?_|refine sG ?_ ?_)<;>intro ht<;>(first|(cases ht;done)|skip))|refine wr ?_|refine ix ?_|refine ati ?_|refine row ?_|refine app ?_|refine dr ?_|refine VAnd.mk ?_ ?_|exact VJe.mk rfl ⟨rfl,rfl⟩|refine .inl (slM ?_)|refine .inl (slO ?_)|refine slM ?_|refine slO ?_|refine slN ?_|refine slS ?_|refine swB (swM fun C hC=>?_)|refine sj ?_|refine .inl (sv ?_)|refine sv ?_|refine cl ?_|refine s3 ?_|refine az ?_|refine rm ?_|refine VBs.own ?_|(refine co hE1 ?_;rintro r h' ⟨rfl,rfl⟩)|(refine co hE2 ?_;rintro r h' ⟨rfl,rfl⟩)|refine Or.inr (Or.inl (VCz.of (hN _ _ hpl1 hpl2) ?_))|fail)<;>(try conv=>whnf))
    refine VLp.mk ⟨[.slot 8 181 2], [], [8, 9, 10], fun k vs h => vs = [.own 0 0, i64 0, .bool false] ∧ h = [.row 0 181 2 []], 0, ?_⟩
    conv => whnf
    refine ⟨⟨rfl, rfl⟩, ?_⟩
    rintro k vs h ⟨rfl, rfl⟩
    (try conv=>whnf)<;>repeat'((first|exact sNo|refine sT ?_|refine sF ?_|((first|refine sD ?_ ?_|refine sE ?_ ?_|refine sN ?_ ?_|refine sG ?_ ?_)<;>intro ht<;>(first|(cases ht;done)|skip))|refine wr ?_|refine ix ?_|refine ati ?_|refine row ?_|refine app ?_|refine dr ?_|refine VAnd.mk ?_ ?_|exact VJe.mk rfl ⟨rfl,rfl⟩|refine .inl (slM ?_)|refine .inl (slO ?_)|refine slM ?_|refine slO ?_|refine slN ?_|refine slS ?_|refine swB (swM fun C hC=>?_)|refine sj ?_|refine .inl (sv ?_)|refine sv ?_|refine cl ?_|refine s3 ?_|refine az ?_|refine rm ?_|refine VBs.own ?_|fail)<;>(try conv=>whnf))
    exact ⟨⟨[], ⟨hst.R, fun y => by rw [hst.m y]; simp⟩, by simp, rfl⟩⟩
  · have hst := by_start (how := how) hpl hRa hRb
    have hN := fun n rows h1 h2 => next_some pl (n := n) (rows := rows) h1 h2 hpn 0 hc0
    (try conv=>whnf)<;>repeat'((first|exact sNo|refine sT ?_|refine sF ?_|((first|refine sD ?_ ?_|refine sE ?_ ?_|refine sN ?_ ?_|refine sG ?_ ?_)<;>intro ht<;>(first|(cases ht;done)|skip))|refine wr ?_|refine ix ?_|refine ati ?_|refine row ?_|refine app ?_|refine dr ?_|refine VAnd.mk ?_ ?_|exact VJe.mk rfl ⟨rfl,rfl⟩|refine .inl (slM ?_)|refine .inl (slO ?_)|refine slM ?_|refine slO ?_|refine slN ?_|refine slS ?_|refine swB (swM fun C hC=>?_)|refine sj ?_|refine .inl (sv ?_)|refine sv ?_|refine cl ?_|refine s3 ?_|refine az ?_|refine rm ?_|refine VBs.own ?_|(refine co hE1 ?_;rintro r h' ⟨rfl,rfl⟩)|(refine co hE2 ?_;rintro r h' ⟨rfl,rfl⟩)|refine Or.inr (Or.inl (VCz.of (hN _ _ hpl1 hpl2) ?_))|fail)<;>(try conv=>whnf))
    refine VLp.mk ⟨[.slot 8 181 2], [], [8, 9, 10], fun k vs h => ∃ (prev : Int) (out : List (Int × Int)), vs = [.own 0 out.length, i64 ((pl.foldl (nextF prev) none).getD 0), .bool (pl.foldl (nextF prev) none).isSome] ∧ h = [.row 0 181 2 (out.map runE)] ∧ 0 ≤ prev ∧ k = (1099511627777 - prev).toNat ∧ BySt how a b pl (pl.foldl (nextF prev) none) out ∧ out.length ≤ pl.countP (fun z => decide (z ≤ prev)), 1099511627777, ?_⟩
    conv => whnf
    refine ⟨⟨0, [], by rw [hc0]; rfl, rfl, by omega, by omega, hst, Nat.zero_le _⟩, ?_⟩
    rw [hpl1, hpl2]
    clear hc0 hst hN hE1 hE2
    rintro k vs h ⟨prev, out, rfl, rfl, hp0, rfl, hst, hlen⟩
    have hsp := next_spec (above := prev) pl none (by simp)
    cases hcur : pl.foldl (nextF prev) none with
    | none =>
      rw [hcur] at hst
      have hcl := List.countP_le_length (p := fun z => decide (z ≤ prev)) (l := pl)
      (try conv=>whnf)<;>repeat'((first|exact sNo|refine sT ?_|refine sF ?_|((first|refine sD ?_ ?_|refine sE ?_ ?_|refine sN ?_ ?_|refine sG ?_ ?_)<;>intro ht<;>(first|(cases ht;done)|skip))|refine wr ?_|refine ix ?_|refine ati ?_|refine row ?_|refine app ?_|refine dr ?_|refine VAnd.mk ?_ ?_|exact VJe.mk rfl ⟨rfl,rfl⟩|refine .inl (slM ?_)|refine .inl (slO ?_)|refine slM ?_|refine slO ?_|refine slN ?_|refine slS ?_|refine swB (swM fun C hC=>?_)|refine sj ?_|refine .inl (sv ?_)|refine sv ?_|refine cl ?_|refine s3 ?_|refine az ?_|refine rm ?_|refine VBs.own ?_|fail)<;>(try conv=>whnf))
      exact ⟨⟨out, ⟨hst.R, fun y => by rw [hst.m y]; simp⟩, by omega, rfl⟩⟩
    | some x =>
      rw [hcur] at hsp hst
      obtain ⟨hlt, hxm, -, -⟩ := hsp
      have hx : x ∈ pl := by rcases hxm with h | h; cases h; exact h
      have hxb := place_le hpl hRa hRb hx
      have hcs := cnt_step hlt hx
      have hcl := List.countP_le_length (p := fun z => decide (z ≤ x)) (l := pl)
      simp only [Option.getD_some, Option.isSome_some]
      clear hcur hxm hx
      by_cases ho : opL how a b x = true
      · obtain ⟨c, hc, h1, hxc, hc2⟩ := by_in hpl hRa hRb ho
        obtain ⟨hA, hB⟩ := ext_spec hst.R (fun y hy => ((hst.m y).1 hy).2 x rfl) h1 hxc hc2
        have hN := fun n rows h1 h2 => next_some pl (n := n) (rows := rows) h1 h2 hpn x hc
        rcases nil_or_snoc out with rfl | ⟨init, bb, rfl⟩
        · obtain ⟨hR2, hm2⟩ := hB (fun init b h => by simp at h)
          have hS2 := by_more hpl hst ho hc hR2 hm2
          have hz : ([] : List (Int × Int)).length = 0 := rfl
          clear hA hB hm2 hst
          cases hp : a.any (inRun x) <;> cases hq : b.any (inRun x) <;> rcases hh with rfl | rfl | rfl <;> (try (exfalso; simp [opL, opH, hp, hq] at ho; done))
          all_goals
            have hP := rhas_b a (by omega) x hp
            have hQ := rhas_b b (by omega) x hq
            clear hp hq
            (try conv=>whnf)<;>repeat'((first|exact sNo|refine sT ?_|refine sF ?_|((first|refine sD ?_ ?_|refine sE ?_ ?_|refine sN ?_ ?_|refine sG ?_ ?_)<;>intro ht<;>(first|(cases ht;done)|skip))|refine wr ?_|refine ix ?_|refine ati ?_|refine row ?_|refine app ?_|refine dr ?_|refine VAnd.mk ?_ ?_|exact VJe.mk rfl ⟨rfl,rfl⟩|refine .inl (slM ?_)|refine .inl (slO ?_)|refine slM ?_|refine slO ?_|refine slN ?_|refine slS ?_|refine swB (swM fun C hC=>?_)|refine sj ?_|refine .inl (sv ?_)|refine sv ?_|refine cl ?_|refine s3 ?_|refine az ?_|refine rm ?_|refine VBs.own ?_|refine Or.inr (Or.inl (VCz.of (hN _ _ rfl rfl) ?_))|refine cf hP ?_|refine cg hP ?_|refine cz hP ?_|refine cf hQ ?_|refine cg hQ ?_|refine cz hQ ?_|fail)<;>(try conv=>whnf))
            exact VRd.mk rfl ⟨(1099511627777 - x).toNat, by omega, x, [(x, c - 1)], by rw [hc]; rfl, rfl, by omega, rfl, by rw [hc]; exact hS2, by simp only [List.length_cons, List.length_nil] at hlen ⊢; omega⟩
        · obtain ⟨_, hbo, _⟩ := rightP_snoc.1 hst.R
          unfold okP at hbo
          have hlen' : (init ++ [bb]).length = init.length + 1 := by simp
          have hj : ((init.length + 1 : Nat) : Int) - 1 = (init.length : Int) := by omega
          have hlast : ((init ++ [bb]).map runE)[init.length]? = some (runE bb) := by simp
          rw [hlen'] at hlen ⊢
          by_cases hbx : bb.2 = x - 1
          · obtain ⟨hR2, hm2⟩ := hA init bb rfl hbx
            have hS2 := by_more hpl hst ho hc hR2 hm2
            clear hA hB hm2 hst
            cases hp : a.any (inRun x) <;> cases hq : b.any (inRun x) <;> rcases hh with rfl | rfl | rfl <;> (try (exfalso; simp [opL, opH, hp, hq] at ho; done))
            all_goals
              have hP := rhas_b a (by omega) x hp
              have hQ := rhas_b b (by omega) x hq
              clear hp hq
              (try conv=>whnf)<;>repeat'((first|exact sNo|refine sT ?_|refine sF ?_|((first|refine sD ?_ ?_|refine sE ?_ ?_|refine sN ?_ ?_|refine sG ?_ ?_)<;>intro ht<;>(first|(cases ht;done)|skip))|refine wr ?_|refine ix ?_|refine ati ?_|refine row ?_|refine app ?_|refine dr ?_|refine VAnd.mk ?_ ?_|exact VJe.mk rfl ⟨rfl,rfl⟩|refine .inl (slM ?_)|refine .inl (slO ?_)|refine slM ?_|refine slO ?_|refine slN ?_|refine slS ?_|refine swB (swM fun C hC=>?_)|refine sj ?_|refine .inl (sv ?_)|refine sv ?_|refine cl ?_|refine s3 ?_|refine az ?_|refine rm ?_|refine VBs.own ?_|refine Or.inr (Or.inl (VCz.of (hN _ _ rfl rfl) ?_))|refine cf hP ?_|refine cg hP ?_|refine cz hP ?_|refine cf hQ ?_|refine cg hQ ?_|refine cz hQ ?_|fail)<;>(try conv=>whnf))
              exact VRd.mk rfl ⟨(1099511627777 - x).toNat, by omega, x, init ++ [(bb.1, c - 1)], by simp [i64, hc], by simp [runE], by omega, rfl, by rw [hc]; exact hS2, by simp; omega⟩
          · obtain ⟨hR2, hm2⟩ := hB (fun i2 b2 h h2 => hbx (by
              have := List.append_inj' h rfl
              simp only [List.cons.injEq, and_true] at this
              rw [this.2]; exact h2))
            have hS2 := by_more hpl hst ho hc hR2 hm2
            clear hA hB hm2 hst
            cases hp : a.any (inRun x) <;> cases hq : b.any (inRun x) <;> rcases hh with rfl | rfl | rfl <;> (try (exfalso; simp [opL, opH, hp, hq] at ho; done))
            all_goals
              have hP := rhas_b a (by omega) x hp
              have hQ := rhas_b b (by omega) x hq
              clear hp hq
              (try conv=>whnf)<;>repeat'((first|exact sNo|refine sT ?_|refine sF ?_|((first|refine sD ?_ ?_|refine sE ?_ ?_|refine sN ?_ ?_|refine sG ?_ ?_)<;>intro ht<;>(first|(cases ht;done)|skip))|refine wr ?_|refine ix ?_|refine ati ?_|refine row ?_|refine app ?_|refine dr ?_|refine VAnd.mk ?_ ?_|exact VJe.mk rfl ⟨rfl,rfl⟩|refine .inl (slM ?_)|refine .inl (slO ?_)|refine slM ?_|refine slO ?_|refine slN ?_|refine slS ?_|refine swB (swM fun C hC=>?_)|refine sj ?_|refine .inl (sv ?_)|refine sv ?_|refine cl ?_|refine s3 ?_|refine az ?_|refine rm ?_|refine VBs.own ?_|refine Or.inr (Or.inl (VCz.of (hN _ _ rfl rfl) ?_))|refine cf hP ?_|refine cg hP ?_|refine cz hP ?_|refine cf hQ ?_|refine cg hQ ?_|refine cz hQ ?_|fail)<;>(try conv=>whnf))
              exact VRd.mk rfl ⟨(1099511627777 - x).toNat, by omega, x, init ++ [bb] ++ [(x, c - 1)], by simp [i64, hc], by simp [runE], by omega, rfl, by rw [hc]; exact hS2, by simp; omega⟩
      · have hS2 := by_skip hpl hst (by simpa using ho)
        have hcm : pl.countP (fun z => decide (z ≤ prev)) ≤ pl.countP (fun z => decide (z ≤ x)) := by omega
        clear hst
        rcases hc : pl.foldl (nextF x) none with _ | c
        all_goals
          rw [hc] at hS2
          first
            | have hN := fun n rows h1 h2 => next_none pl (n := n) (rows := rows) h1 h2 hpn x hc
            | have hN := fun n rows h1 h2 => next_some pl (n := n) (rows := rows) h1 h2 hpn x hc
          cases hp : a.any (inRun x) <;> cases hq : b.any (inRun x) <;> rcases hh with rfl | rfl | rfl <;> (try (exfalso; simp [opL, opH, hp, hq] at ho; done))
          all_goals
            have hP := rhas_b a (by omega) x hp
            have hQ := rhas_b b (by omega) x hq
            clear hp hq
            (try conv=>whnf)<;>repeat'((first|exact sNo|refine sT ?_|refine sF ?_|((first|refine sD ?_ ?_|refine sE ?_ ?_|refine sN ?_ ?_|refine sG ?_ ?_)<;>intro ht<;>(first|(cases ht;done)|skip))|refine wr ?_|refine ix ?_|refine ati ?_|refine row ?_|refine app ?_|refine dr ?_|refine VAnd.mk ?_ ?_|exact VJe.mk rfl ⟨rfl,rfl⟩|refine .inl (slM ?_)|refine .inl (slO ?_)|refine slM ?_|refine slO ?_|refine slN ?_|refine slS ?_|refine swB (swM fun C hC=>?_)|refine sj ?_|refine .inl (sv ?_)|refine sv ?_|refine cl ?_|refine s3 ?_|refine az ?_|refine rm ?_|refine VBs.own ?_|refine Or.inr (Or.inl (VCz.of (hN _ _ rfl rfl) ?_))|refine cf hP ?_|refine cg hP ?_|refine cz hP ?_|refine cf hQ ?_|refine cg hQ ?_|refine cz hQ ?_|fail)<;>(try conv=>whnf))
            exact VRd.mk rfl ⟨(1099511627777 - x).toNat, by omega, x, out, by rw [hc]; rfl, rfl, by omega, rfl, by rw [hc]; exact hS2, by omega⟩
end Go.Proofs.YtlghgdgpbnlpmaaGreat
/- What is proved: the plain law of what is met and what is left. Conditions: none. -/
namespace Go.Proofs.YtlghgdgpbnlpmaaGreat
set_option linter.unusedVariables false
set_option linter.unusedSimpArgs false
theorem rightP_nil : RightP [] := ⟨by simp, List.Pairwise.nil⟩
theorem rightP_cons {x : Int × Int} {l : List (Int × Int)} : RightP (x :: l) ↔ okP x ∧ RightP l ∧ ∀ z ∈ l, x.2 + 1 < z.1 := by
  unfold RightP
  rw [List.pairwise_cons]
  constructor
  · rintro ⟨h1, h2, h3⟩
    exact ⟨h1 x (by simp), ⟨fun y hy => h1 y (by simp [hy]), h3⟩, h2⟩
  · rintro ⟨h1, ⟨h2, h3⟩, h4⟩
    exact ⟨fun y hy => by rcases List.mem_cons.1 hy with rfl | h; exact h1; exact h2 y h, h4, h3⟩
theorem mone_spec : ∀ (b out : List (Int × Int)) (r : Int × Int), RightP b → RightP out → 1 ≤ r.1 → r.2 ≤ 1099511627776 → (∀ z ∈ out, z.2 + 1 < r.1) →
    RightP (mone b out r) ∧ (∀ y, hasL (mone b out r) y ↔ hasL out y ∨ (r.1 ≤ y ∧ y ≤ r.2 ∧ ¬ hasL b y)) ∧ (∀ z ∈ mone b out r, z ∈ out ∨ z.2 ≤ r.2) ∧ (mone b out r).length ≤ out.length + b.length + 1
  | [], out, r, _, ho, h1, h2, h3 => by
    have hm : mone [] out r = if r.1 ≤ r.2 then out ++ [r] else out := rfl
    rw [hm]
    by_cases hle : r.1 ≤ r.2
    · rw [if_pos hle]
      refine ⟨rightP_snoc.2 ⟨ho, ⟨h1, hle, h2⟩, h3⟩, fun y => ?_, fun z hz => ?_, by simp⟩
      · rw [hasL_append, hasL_one]
        constructor
        · rintro (h | h)
          · exact .inl h
          · exact .inr ⟨h.1, h.2, not_hasL_nil⟩
        · rintro (h | h)
          · exact .inl h
          · exact .inr ⟨h.1, h.2.1⟩
      · rcases List.mem_append.1 hz with h | h
        · exact .inl h
        · rw [List.mem_singleton.1 h]; exact .inr (Int.le_refl _)
    · rw [if_neg hle]
      exact ⟨ho, fun y => ⟨fun h => .inl h, fun h => by rcases h with h | h; exact h; omega⟩, fun z hz => .inl hz, by simp⟩
  | x :: b, out, r, hb, ho, h1, h2, h3 => by
    have hx := hb.1 x (List.mem_cons_self ..)
    unfold okP at hx
    have hst : mone (x :: b) out r = mone b (mstep (out, r) x).1 (mstep (out, r) x).2 := rfl
    rw [hst]
    simp only [mstep]
    by_cases hc : x.2 < r.1 ∨ r.2 < x.1
    · rw [if_pos hc]
      obtain ⟨i1, i2, i3, i4⟩ := mone_spec b out r hb.tail ho h1 h2 h3
      refine ⟨i1, fun y => (i2 y).trans ?_, i3, by simp; omega⟩
      rw [hasL_cons]
      constructor
      · rintro (h | ⟨k1, k2, k3⟩)
        · exact .inl h
        · exact .inr ⟨k1, k2, fun k => by rcases k with k | k; omega; exact k3 k⟩
      · rintro (h | ⟨k1, k2, k3⟩)
        · exact .inl h
        · exact .inr ⟨k1, k2, fun k => k3 (.inr k)⟩
    · rw [if_neg hc]
      dsimp only
      by_cases hl : r.1 < x.1
      · rw [if_pos hl]
        obtain ⟨i1, i2, i3, i4⟩ := mone_spec b (out ++ [(r.1, x.1 - 1)]) (x.2 + 1, r.2) hb.tail (rightP_snoc.2 ⟨ho, ⟨h1, by dsimp only; omega, by dsimp only; omega⟩, h3⟩) (by dsimp only; omega) h2 (fun z hz => by
          rcases List.mem_append.1 hz with h | h
          · have := h3 z h; dsimp only; omega
          · rw [List.mem_singleton.1 h]; dsimp only; omega)
        refine ⟨i1, fun y => (i2 y).trans ?_, fun z hz => ?_, by simp at i4 ⊢; omega⟩
        · rw [hasL_append, hasL_one, hasL_cons]
          dsimp only
          constructor
          · rintro ((h | h) | ⟨k1, k2, k3⟩)
            · exact .inl h
            · refine .inr ⟨h.1, by omega, fun k => ?_⟩
              rcases k with k | k
              · omega
              · have := hb.above k; omega
            · exact .inr ⟨by omega, k2, fun k => by rcases k with k | k; omega; exact k3 k⟩
          · rintro (h | ⟨k1, k2, k3⟩)
            · exact .inl (.inl h)
            · by_cases k4 : y < x.1
              · exact .inl (.inr ⟨k1, by omega⟩)
              · refine .inr ⟨?_, k2, fun k => k3 (.inr k)⟩
                by_cases k5 : y ≤ x.2
                · exact absurd (.inl ⟨by omega, k5⟩) k3
                · omega
        · rcases i3 z hz with h | h
          · rcases List.mem_append.1 h with h | h
            · exact .inl h
            · rw [List.mem_singleton.1 h]; exact .inr (by dsimp only; omega)
          · exact .inr h
      · rw [if_neg hl]
        obtain ⟨i1, i2, i3, i4⟩ := mone_spec b out (x.2 + 1, r.2) hb.tail ho (by dsimp only; omega) h2 (fun z hz => by have := h3 z hz; dsimp only; omega)
        refine ⟨i1, fun y => (i2 y).trans ?_, i3, by simp; omega⟩
        rw [hasL_cons]
        dsimp only
        constructor
        · rintro (h | ⟨k1, k2, k3⟩)
          · exact .inl h
          · exact .inr ⟨by omega, k2, fun k => by rcases k with k | k; omega; exact k3 k⟩
        · rintro (h | ⟨k1, k2, k3⟩)
          · exact .inl h
          · refine .inr ⟨?_, k2, fun k => k3 (.inr k)⟩
            by_cases k5 : y ≤ x.2
            · exact absurd (.inl ⟨by omega, k5⟩) k3
            · omega
theorem minus_go {b : List (Int × Int)} (hb : RightP b) : ∀ (a out : List (Int × Int)), RightP a → RightP out → (∀ z ∈ out, ∀ r ∈ a, z.2 + 1 < r.1) →
    RightP (a.foldl (mone b) out) ∧ (∀ y, hasL (a.foldl (mone b) out) y ↔ hasL out y ∨ (hasL a y ∧ ¬ hasL b y)) ∧ (a.foldl (mone b) out).length ≤ out.length + a.length * (b.length + 1)
  | [], out, _, ho, _ => ⟨ho, fun y => ⟨fun h => .inl h, fun h => by rcases h with h | h; exact h; exact absurd h.1 not_hasL_nil⟩, by simp⟩
  | r :: a, out, ha, ho, h => by
    have hr := ha.1 r (List.mem_cons_self ..)
    unfold okP at hr
    obtain ⟨i1, i2, i3, i4⟩ := mone_spec b out r hb ho hr.1 hr.2.2 (fun z hz => h z hz r (List.mem_cons_self ..))
    have hra := (rightP_cons.1 ha).2.2
    obtain ⟨j1, j2, j3⟩ := minus_go hb a (mone b out r) ha.tail i1 (fun z hz q hq => by
      rcases i3 z hz with k | k
      · exact h z k q (List.mem_cons_of_mem _ hq)
      · have := hra q hq; omega)
    refine ⟨j1, fun y => ?_, ?_⟩
    · rw [List.foldl_cons, j2 y, i2 y, hasL_cons]
      constructor
      · rintro ((k | k) | k)
        · exact .inl k
        · exact .inr ⟨.inl ⟨k.1, k.2.1⟩, k.2.2⟩
        · exact .inr ⟨.inr k.1, k.2⟩
      · rintro (k | ⟨k | k, k2⟩)
        · exact .inl (.inl k)
        · exact .inl (.inr ⟨k.1, k.2, k2⟩)
        · exact .inr ⟨k, k2⟩
    · rw [List.foldl_cons, List.length_cons, Nat.succ_mul]
      omega
theorem minus_spec {a b : List (Int × Int)} (ha : RightP a) (hb : RightP b) : RightP (minusL a b) ∧ (∀ y, hasL (minusL a b) y ↔ hasL a y ∧ ¬ hasL b y) ∧ (minusL a b).length ≤ a.length * (b.length + 1) := by
  obtain ⟨h1, h2, h3⟩ := minus_go hb a [] ha rightP_nil (by simp)
  refine ⟨h1, fun y => (h2 y).trans ⟨fun h => by rcases h with h | h; exact absurd h not_hasL_nil; exact h, fun h => .inr h⟩, by simpa [minusL] using h3⟩
end Go.Proofs.YtlghgdgpbnlpmaaGreat
/- What is proved: chapter 06's law: plain sets. Conditions: none. -/
namespace Go.Proofs.YtlghgdgpbnlpmaaGreat
open Go.RowKit
set_option linter.unusedVariables false
set_option linter.unusedSimpArgs false
def srt (l : List (Int × Int)) : List (Int × Int) := l.mergeSort fun x y => decide (x.1 ≤ y.1)
theorem srt_perm (l : List (Int × Int)) : (srt l).Perm l := List.mergeSort_perm _ _
theorem srt_pw (l : List (Int × Int)) : (srt l).Pairwise (fun x y => x.1 ≤ y.1) := by
  have := List.pairwise_mergeSort (le := fun (x y : Int × Int) => decide (x.1 ≤ y.1)) (fun a b c h1 h2 => by simp only [decide_eq_true_eq] at *; omega) (fun a b => by simp only [Bool.or_eq_true, decide_eq_true_eq]; omega) l
  exact this.imp fun h => by simpa using h
def ofL (l : List Int) : List (Int × Int) := (srt (l.map one)).foldl joinStep []
theorem ofL_is {l : List Int} (hok : l.all okNum = true) : IsOf l (ofL l) := of_join (srt_perm _) (srt_pw _) (List.all_eq_true.1 hok)
theorem isOf_eq {l : List Int} {x y : List (Int × Int)} (h : IsOf l x) (h2 : IsOf l y) : x = y := canonR h.1 h2.1 fun v => by rw [h.2 v, h2.2 v]
theorem minus_p {a b : List (Int × Int)} (ha : rightL a = true) (hb : rightL b = true) (hal : a.length ≤ 40000) (hbl : b.length ≤ 40000) : AFnP Tryz.prog 135 [lstE runE a, lstE runE b] (lstE runE (minusL a b)) := by
  have := minus_a a b (by omega) (by omega)
  rwa [ha, hb, Bool.and_self, if_pos rfl] at this
theorem of_p {l : List Int} (hok : l.all okNum = true) (hn : l.length ≤ 1000000) : AFnP Tryz.prog 131 [lstE intE l] (.tup [lstE runE (ofL l), i64 0]) :=
  ((of_a l hn).mono fun r h => by
    rcases h.ex with ⟨_, out, h1, _, rfl⟩ | ⟨h1, _⟩
    · rw [isOf_eq h1 (ofL_is hok)]
    · rw [hok] at h1; cases h1).toP
theorem rof_p {l : List Int} (hok : l.all okNum = true) (hn : l.length ≤ 1000000) : AFnP Tryz.prog 126 [lstE intE l] (lstE runE (ofL l)) :=
  ((rof_a l hn hok).mono fun r h => by
    obtain ⟨out, h1, _, rfl⟩ := h.ex
    rw [isOf_eq h1 (ofL_is hok)]).toP
theorem ofL_len {l : List Int} : (ofL l).length ≤ l.length := by
  have := joinStep_len (srt (l.map one)) []
  rw [(srt_perm _).length_eq] at this
  simpa [ofL] using this
theorem opL_iff {how : Int} {a b : List (Int × Int)} {y : Int} : opL how a b y = true ↔ (if how = 1 then hasL a y ∧ hasL b y else if how = 2 then hasL a y ∧ ¬ hasL b y else hasL a y ∨ hasL b y) := by
  have h1 := any_has (l := a) (y := y)
  have h2 := any_has (l := b) (y := y)
  unfold opL opH
  cases h3 : a.any (inRun y) <;> cases h4 : b.any (inRun y) <;> rw [h3] at h1 <;> rw [h4] at h2 <;> simp only [Bool.false_eq_true, false_iff, true_iff] at h1 h2 <;> (repeat' split) <;> simp [h1, h2]
theorem by2_p {a b : List (Int × Int)} (ha : rightL a = true) (hb : rightL b = true) (hal : a.length ≤ 1000) (hbl : b.length ≤ 1000) : AFnP Tryz.prog 99 [lstE runE a, lstE runE b, i64 2] (lstE runE (minusL a b)) :=
  ((by_a 2 (.inr (.inr rfl)) a b hal hbl ha hb).mono fun r h => by
    obtain ⟨out, h1, _, rfl⟩ := h.ex
    have hu := minus_spec (rightL_iff.1 ha) (rightL_iff.1 hb)
    rw [canonR h1.1 hu.1 fun v => by rw [h1.2 v, opL_iff, hu.2.1 v]; simp]).toP
/-! how many numbers there are -/
end Go.Proofs.YtlghgdgpbnlpmaaGreat
