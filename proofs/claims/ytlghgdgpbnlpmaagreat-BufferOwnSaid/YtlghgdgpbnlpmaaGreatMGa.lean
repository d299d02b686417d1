/- What is proved: plain bundles, and that the two ways to say which are right are one. Conditions: none. -/
import Derived.Test.YtlghgdgpbnlpmaaGreatMKf
namespace Go.Proofs.YtlghgdgpbnlpmaaGreat
open Go.RowKit
set_option linter.unusedVariables false
set_option linter.unusedSimpArgs false
structure Bun where
  dc : Int
  af : Int
  la : Int
  dp : Int → Int
  t : Tr8
  c : List Spn
def bunE (b : Bun) : List AV := [i64 b.dc, i64 b.af, i64 b.la, i64 (b.dp 0), i64 (b.dp 1), i64 (b.dp 2), i64 (b.dp 3), lstE entE b.t.es, lstE kidRow b.t.ks, lstE spE b.c]
def zeroB : Bun := ⟨0, 0, 0, fun _ => 0, .mk [] [], []⟩
/-- one place of a vector anew -/
def setV (v : Int → Int) (d x : Int) : Int → Int := fun k => if k = d then x else v k
theorem setV_same (v : Int → Int) (d x : Int) : setV v d x d = x := by simp [setV]
theorem setV_ne (v : Int → Int) {d k : Int} (x : Int) (h : k ≠ d) : setV v d x k = v k := by simp [setV, h]
theorem vecE_set0 (v : Int → Int) (x : Int) : vecE (setV v 0 x) = .agg [i64 x, i64 (v 1), i64 (v 2), i64 (v 3)] := by simp [vecE, setV]
theorem vecE_set1 (v : Int → Int) (x : Int) : vecE (setV v 1 x) = .agg [i64 (v 0), i64 x, i64 (v 2), i64 (v 3)] := by simp [vecE, setV]
theorem vecE_set2 (v : Int → Int) (x : Int) : vecE (setV v 2 x) = .agg [i64 (v 0), i64 (v 1), i64 x, i64 (v 3)] := by simp [vecE, setV]
theorem vecE_set3 (v : Int → Int) (x : Int) : vecE (setV v 3 x) = .agg [i64 (v 0), i64 (v 1), i64 (v 2), i64 x] := by simp [vecE, setV]
def namesB (b : Bun) : Bool := decide ((0 ≤ b.dc ∧ b.dc < 4) ∧ 0 ≤ b.af ∧ b.af < b.la ∧ b.la ≤ 1099511627776 ∧ b.dp b.dc ≤ b.af) && mayV b.dp
theorem namesB_iff {b : Bun} : namesB b = true ↔ ((0 ≤ b.dc ∧ b.dc < 4) ∧ 0 ≤ b.af ∧ b.af < b.la ∧ b.la ≤ 1099511627776 ∧ b.dp b.dc ≤ b.af) ∧ mayV b.dp = true := by
  unfold namesB; rw [Bool.and_eq_true, decide_eq_true_eq]
def leqC (a b : List Spn) : Bool := decide (byC minusL a b = [])
def causR (t : Tr8) (c : List Spn) : Bool := rightT 5 t && (rightC c && leqC (ofC (allT t)) c)
def ownC (b : Bun) : List Spn := [(b.dc, b.af + 1, b.la)]
def mayC (b : Bun) : List Spn := fullC (setV b.dp b.dc b.la)
def seenC (b : Bun) : List Spn := fullC (setV b.dp b.dc b.af)
def rightB (b : Bun) : Bool := namesB b && (causR b.t b.c && (decide (b.t.es.length = 0) && (leqC (ofC (allT b.t)) (ownC b) && (leqC (ownC b) b.c && leqC b.c (mayC b)))))
def rightR (b : Bun) : Bool := namesB b && (causR b.t b.c && (decide (b.t.es.length = 0) && (leqC (ofC (allT b.t)) (ownC b) && (leqC (ownC b) b.c && leqC (byC minusL b.c (ownC b)) (seenC b)))))
theorem ownC_right {b : Bun} (h : namesB b = true) : RightC (ownC b) := by
  obtain ⟨⟨⟨h0, h4⟩, h1, h2, h3, h5⟩, h6⟩ := namesB_iff.1 h
  refine ⟨⟨fun x hx => ?_, List.pairwise_singleton _ _⟩, fun d _ _ => ?_⟩
  · rw [ownC, List.mem_singleton] at hx
    rw [hx]
    exact ⟨h0, h4⟩
  · unfold part ownC
    by_cases hd : b.dc = d
    · simp only [List.filter_cons, hd, decide_true, if_true, List.filter_nil, List.map_cons, List.map_nil]
      refine ⟨fun x hx => ?_, List.pairwise_singleton _ _⟩
      rw [List.mem_singleton] at hx
      subst hx
      unfold okP
      dsimp only
      omega
    · simp only [List.filter_cons, hd, decide_false, List.filter_nil, List.map_nil]
      exact rightP_nil
theorem ownC_has {b : Bun} (h : namesB b = true) {d y : Int} : hasP (ownC b) d y ↔ d = b.dc ∧ b.af < y ∧ y ≤ b.la := by
  obtain ⟨⟨⟨h0, h4⟩, h1, h2, h3, h5⟩, h6⟩ := namesB_iff.1 h
  unfold hasP part ownC
  by_cases hd : b.dc = d
  · subst hd
    simp only [List.filter_cons, decide_true, if_true, List.filter_nil, List.map_cons, List.map_nil, hasL_one]
    constructor
    · rintro ⟨_, _, k⟩; exact ⟨trivial, by omega, by omega⟩
    · rintro ⟨_, k1, k2⟩; exact ⟨h0, h4, by omega, by omega⟩
  · simp only [List.filter_cons, hd, decide_false, List.filter_nil, List.map_nil]
    constructor
    · rintro ⟨_, _, z, hz, _⟩
      simp at hz
    · rintro ⟨k, _⟩; exact absurd k.symm hd
theorem mayV_set {b : Bun} (h : namesB b = true) {x : Int} (h0 : 0 ≤ x) (h1 : x ≤ 1099511627776) : mayV (setV b.dp b.dc x) = true := by
  obtain ⟨_, h6⟩ := namesB_iff.1 h
  refine mayV_iff.2 fun d k0 k4 => ?_
  unfold setV
  split
  · exact ⟨h0, h1⟩
  · exact mayV_iff.1 h6 d k0 k4
theorem full_has {v : Int → Int} {d y : Int} : hasP (fullC v) d y ↔ (0 ≤ d ∧ d < 4) ∧ 1 ≤ y ∧ y ≤ v d := by
  unfold hasP
  constructor
  · rintro ⟨h0, h4, k⟩
    rw [part_fullC _ h0 h4, run1_has] at k
    exact ⟨⟨h0, h4⟩, k⟩
  · rintro ⟨⟨h0, h4⟩, k⟩
    exact ⟨h0, h4, by rw [part_fullC _ h0 h4, run1_has]; exact k⟩
theorem leqC_iff {a b : List Spn} (ha : RightC a) (hb : RightC b) : leqC a b = true ↔ ∀ d y, hasP a d y → hasP b d y := by
  unfold leqC
  rw [decide_eq_true_eq, leq_iff ha hb]
/-- the two ways to say it -/
theorem right_two (b : Bun) : rightR b = rightB b := by
  unfold rightR rightB
  cases hN : namesB b
  · rfl
  cases hC : causR b.t b.c
  · rfl
  cases hE : decide (b.t.es.length = 0)
  · rfl
  cases h1 : leqC (ofC (allT b.t)) (ownC b)
  · rfl
  cases h2 : leqC (ownC b) b.c
  · rfl
  simp only [Bool.true_and]
  obtain ⟨⟨⟨h0, h4⟩, k1, k2, k3, k5⟩, k6⟩ := namesB_iff.1 hN
  have hc : RightC b.c := by
    unfold causR at hC
    simp only [Bool.and_eq_true] at hC
    exact rightC_iff.1 hC.2.1
  have ho := ownC_right hN
  have hm := miC_is hc ho
  unfold seenC mayC
  rw [Bool.eq_iff_iff, leqC_iff hm.1 (fullC_right (mayV_set hN (by omega) (by omega))), leqC_iff hc (fullC_right (mayV_set hN (by omega) (by omega)))]
  constructor
  · intro h d y k
    have hy : 0 ≤ d ∧ d < 4 ∧ 1 ≤ y := by
      obtain ⟨a1, a2, z, hz, a3, a4⟩ := k
      have := (hc.2 d a1 a2).1 z hz
      unfold okP at this
      omega
    by_cases hw : hasP (ownC b) d y
    · obtain ⟨rfl, w1, w2⟩ := (ownC_has hN).1 hw
      exact full_has.2 ⟨⟨h0, h4⟩, by omega, by rw [setV_same]; exact w2⟩
    · have := full_has.1 (h d y ((hm.2.1 d y).2 ⟨k, hw⟩))
      refine full_has.2 ⟨this.1, this.2.1, Int.le_trans this.2.2 ?_⟩
      unfold setV
      split <;> omega
  · intro h d y k
    obtain ⟨k, hw⟩ := (hm.2.1 d y).1 k
    have := full_has.1 (h d y k)
    refine full_has.2 ⟨this.1, this.2.1, ?_⟩
    have h3 := this.2.2
    unfold setV at h3 ⊢
    split
    · rename_i hd
      rw [if_pos hd] at h3
      exact Int.not_lt.1 fun h' => hw ((ownC_has hN).2 ⟨hd, h', h3⟩)
    · rename_i hd
      rw [if_neg hd] at h3
      exact h3
def readyB (b : Bun) (v : Int → Int) : Bool := rightB b && (decide (v b.dc = b.af) && atMost b.dp v)
def knownB (b : Bun) (v : Int → Int) : Bool := rightB b && decide (b.la ≤ v b.dc)
def behV (v : Int → Int) (b : Bun) : Int → Int := setV (mxV v b.dp) b.dc (mx (mxV v b.dp b.dc) b.la)
def keyB (b : Bun) : Int := b.dc * 1099511627777 + b.af
/-- is there little of it? -/
def smallB (b : Bun) (n : Nat) : Bool := decide (0 ≤ roomT 8 b.t n) && decide (b.c.length ≤ n)
theorem right_names {b : Bun} (h : rightB b = true) : namesB b = true := by unfold rightB at h; rw [Bool.and_eq_true] at h; exact h.1
theorem right_caus {b : Bun} (h : rightB b = true) : causR b.t b.c = true := by unfold rightB at h; simp only [Bool.and_eq_true] at h; exact h.2.1
theorem right_tree {b : Bun} (h : rightB b = true) : rightT 5 b.t = true := by have := right_caus h; unfold causR at this; simp only [Bool.and_eq_true] at this; exact this.1
theorem right_ctx {b : Bun} (h : rightB b = true) : rightC b.c = true := by have := right_caus h; unfold causR at this; simp only [Bool.and_eq_true] at this; exact this.2.1
theorem right_nums {b : Bun} (h : rightB b = true) : ((0 ≤ b.dc ∧ b.dc < 4) ∧ 0 ≤ b.af ∧ b.af < b.la ∧ b.la ≤ 1099511627776 ∧ b.dp b.dc ≤ b.af) ∧ mayV b.dp = true := namesB_iff.1 (right_names h)
end Go.Proofs.YtlghgdgpbnlpmaaGreat
/- What is proved: what the functions of package causal answer. Conditions: none. -/
namespace Go.Proofs.YtlghgdgpbnlpmaaGreat
open Go.RowKit
set_option linter.unusedVariables false
set_option linter.unusedSimpArgs false
set_option maxRecDepth 100000
set_option maxHeartbeats 16000000
theorem ofC_len (l : List (Int × Int)) : (ofC l).length ≤ 4 * l.length := by
  unfold ofC
  rw [whole_len]
  have g : ∀ d, (ofL (nums l d)).length ≤ l.length := fun d => Nat.le_trans ofL_len (nums_len l d)
  have g0 := g 0
  have g1 := g 1
  have g2 := g 2
  have g3 := g 3
  omega
theorem dots_lenB {t : Tr8} {n : Nat} (h : cntT t ≤ n) : (ofC (allT t)).length ≤ 4 * n := by
  have h1 := ofC_len (allT t)
  have h2 := allT_len t
  omega
theorem dots_right {t : Tr8} (h : rightT 5 t = true) : RightC (ofC (allT t)) := ofC_right (all_ok 5 t h)
theorem leq_p {a b : List Spn} (h1 : RightC a) (h2 : RightC b) {n m : Nat} (ha : a.length ≤ n) (hb : b.length ≤ m) (hn : n ≤ 40000) (hm : m ≤ 40000) (hnm : n * (m + 1) ≤ 250000) {t : Bool} (ht : leqC a b = t) : AFnP Tryz.prog 86 [lstE spE a, lstE spE b] (.bool t) :=
  cleq_t h1 h2 (by omega) (by omega) (Nat.le_trans (Nat.mul_le_mul ha (by omega)) hnm) ht
theorem causR_a (t : Tr8) (c : List Spn) (hc : cntT t ≤ 200) (hl : c.length ≤ 200) : AFnP Tryz.prog 84 [.agg [lstE entE t.es, lstE kidRow t.ks, lstE spE c]] (.bool (causR t c)) := by
  refine afp ty_ok Tryz.call84 Tryz.func84 ?_
  unfold causR
  cases hr : rightT 5 t
  · have r1 := tdots_f t hr (by omega)
    (try conv=>whnf)<;>repeat'((first|exact sNo|refine sT ?_|refine sF ?_|((first|refine sD ?_ ?_|refine sE ?_ ?_|refine sN ?_ ?_|refine sG ?_ ?_)<;>intro ht<;>(first|(cases ht;done)|skip))|refine wr ?_|refine ix ?_|refine ati ?_|refine row ?_|refine app ?_|refine dr ?_|refine VBs.own ?_|refine cf r1 ?_|refine cg r1 ?_|refine cz r1 ?_|fail)<;>(try conv=>whnf))
    all_goals rfl
  · have r1 := tdots_t t hr (by omega)
    have h1 := dots_lenB hc
    cases h2 : rightC c
    · have r2 := cleq_f (a := ofC (allT t)) (b := c) (by rw [h2, Bool.and_false]) (by omega) (by omega)
      generalize ofC (allT t) = d at *
      (try conv=>whnf)<;>repeat'((first|exact sNo|refine sT ?_|refine sF ?_|((first|refine sD ?_ ?_|refine sE ?_ ?_|refine sN ?_ ?_|refine sG ?_ ?_)<;>intro ht<;>(first|(cases ht;done)|skip))|refine wr ?_|refine ix ?_|refine ati ?_|refine row ?_|refine app ?_|refine dr ?_|refine VBs.own ?_|refine cf r1 ?_|refine cg r1 ?_|refine cz r1 ?_|refine cf r2 ?_|refine cg r2 ?_|refine cz r2 ?_|fail)<;>(try conv=>whnf))
      all_goals rfl
    · have r2 := leq_p (dots_right hr) (rightC_iff.1 h2) h1 hl (by omega) (by omega) (by omega) rfl
      generalize leqC (ofC (allT t)) c = b at *
      generalize ofC (allT t) = d at *
      cases b
      all_goals
        (try conv=>whnf)<;>repeat'((first|exact sNo|refine sT ?_|refine sF ?_|((first|refine sD ?_ ?_|refine sE ?_ ?_|refine sN ?_ ?_|refine sG ?_ ?_)<;>intro ht<;>(first|(cases ht;done)|skip))|refine wr ?_|refine ix ?_|refine ati ?_|refine row ?_|refine app ?_|refine dr ?_|refine VBs.own ?_|refine cf r1 ?_|refine cg r1 ?_|refine cz r1 ?_|refine cf r2 ?_|refine cg r2 ?_|refine cz r2 ?_|fail)<;>(try conv=>whnf))
        all_goals rfl
theorem causR_p {t : Tr8} {c : List Spn} (hc : cntT t ≤ 200) (hl : c.length ≤ 200) {b : Bool} (h : causR t c = b) : AFnP Tryz.prog 84 [.agg [lstE entE t.es, lstE kidRow t.ks, lstE spE c]] (.bool b) := by subst h; exact causR_a t c hc hl
theorem cloneX_a (l : List Spn) (hn : l.length ≤ 1000000) : AFnP Tryz.prog 119 [lstE spE l] (lstE spE l) := by
  refine afp ty_ok Tryz.call119 Tryz.func119 ?_
  (try conv=>whnf)<;>repeat'((first|exact sNo|refine sT ?_|refine sF ?_|((first|refine sD ?_ ?_|refine sE ?_ ?_|refine sN ?_ ?_|refine sG ?_ ?_)<;>intro ht<;>(first|(cases ht;done)|skip))|refine wr ?_|refine ix ?_|refine ati ?_|refine row ?_|refine app ?_|refine dr ?_|refine VBs.own ?_|(refine Or.inr (VNl.mk ?_);intro b hb;cases b)|fail)<;>(try conv=>whnf))
  · simp [lstE]
  · obtain rfl := List.eq_nil_of_length_eq_zero (hb rfl)
    rfl
theorem causC_a (t : Tr8) (c : List Spn) (hc : cntT t ≤ 200) (hl : c.length ≤ 200) (h : causR t c = true) : AFnP Tryz.prog 92 [.agg [lstE entE t.es, lstE kidRow t.ks, lstE spE c]] (.agg [lstE entE t.es, lstE kidRow t.ks, lstE spE c]) := by
  refine afp ty_ok Tryz.call92 Tryz.func92 ?_
  have r1 := causR_p hc hl h
  have hr : rightT 5 t = true := by unfold causR at h; simp only [Bool.and_eq_true] at h; exact h.1
  have r2 := tclone_t t hr (by omega)
  have r3 := cloneX_a c (by omega)
  (try conv=>whnf)<;>repeat'((first|(refine drx [1002,1005] [] [] ?_;(try conv=>whnf);(fail_if_success (show False)))|exact sNo|refine sT ?_|refine sF ?_|((first|refine sD ?_ ?_|refine sE ?_ ?_|refine sN ?_ ?_|refine sG ?_ ?_)<;>intro ht<;>(first|(cases ht;done)|skip))|refine wr ?_|refine ix ?_|refine ati ?_|refine row ?_|refine app ?_|refine dr ?_|refine VBs.own ?_|refine cp r1 ?_|refine cf r1 ?_|refine cg r1 ?_|refine cz r1 ?_|refine cp r2 ?_|refine cf r2 ?_|refine cg r2 ?_|refine cz r2 ?_|refine cp r3 ?_|refine cf r3 ?_|refine cg r3 ?_|refine cz r3 ?_|fail)<;>(try conv=>whnf))
  all_goals rfl
theorem Same_t (t : Tr8) (hr : rightT 5 t = true) (hc : cntT t ≤ 1000000) : AFnP Tryz.prog 103 [.agg [lstE entE t.es, lstE kidRow t.ks], .agg [lstE entE t.es, lstE kidRow t.ks]] (.bool true) := by
  refine Same_p t t hc hc ?_
  rw [hr, sameT_refl 5 t (deepT_le 5 t hr)]
  rfl
theorem csame_t {c : List Spn} (h : rightC c = true) (hl : c.length ≤ 1000000) : AFnP Tryz.prog 104 [lstE spE c, lstE spE c] (.bool true) := csame_p hl hl (by rw [h, decide_eq_true rfl]; rfl)
theorem causS_a (t : Tr8) (c : List Spn) (hc : cntT t ≤ 200) (hl : c.length ≤ 200) (h : causR t c = true) : AFnP Tryz.prog 73 [.agg [lstE entE t.es, lstE kidRow t.ks, lstE spE c], .agg [lstE entE t.es, lstE kidRow t.ks, lstE spE c]] (.bool true) := by
  refine afp ty_ok Tryz.call73 Tryz.func73 ?_
  have r1 := causR_p hc hl h
  unfold causR at h
  simp only [Bool.and_eq_true] at h
  have r2 := Same_t t h.1 (by omega)
  have r3 := csame_t h.2.1 (by omega)
  (try conv=>whnf)<;>repeat'((first|exact sNo|refine sT ?_|refine sF ?_|((first|refine sD ?_ ?_|refine sE ?_ ?_|refine sN ?_ ?_|refine sG ?_ ?_)<;>intro ht<;>(first|(cases ht;done)|skip))|refine wr ?_|refine ix ?_|refine ati ?_|refine row ?_|refine app ?_|refine dr ?_|refine VBs.own ?_|refine cf r1 ?_|refine cg r1 ?_|refine cz r1 ?_|refine cf r2 ?_|refine cg r2 ?_|refine cz r2 ?_|refine cf r3 ?_|refine cg r3 ?_|refine cz r3 ?_|fail)<;>(try conv=>whnf))
  all_goals rfl
/-! the reference -/
theorem rleq_a {a b : List Spn} (h1 : RightC a) (h2 : RightC b) {n m : Nat} (ha : a.length ≤ n) (hb : b.length ≤ m) (hn : n ≤ 1000) (hm : m ≤ 1000) (hnm : n * (m + 1) ≤ 100000) {t : Bool} (ht : leqC a b = t) : AFnP Tryz.prog 70 [lstE spE a, lstE spE b] (.bool t) := by
  subst ht
  have hp := fun (d : Nat) (hd : d < 4) => minus_spec (h1.2 d (by omega) (by omega)) (h2.2 d (by omega) (by omega))
  have r1 : AFnP Tryz.prog 68 [lstE spE a, lstE spE b, i64 2] (lstE spE (byC minusL a b)) := rbyC_a minusL 2 a b (by omega) (by omega)
    (fun d hd => by2_p (rightL_iff.2 (h1.2 d (by omega) (by omega))) (rightL_iff.2 (h2.2 d (by omega) (by omega))) (by have := part_len a d; omega) (by have := part_len b d; omega))
    (fun d hd => by
      have h := (hp d hd).2.2
      have k1 := part_len a d
      have k2 := part_len b d
      have h3 : (part a d).length * ((part b d).length + 1) ≤ n * (m + 1) := Nat.mul_le_mul (by omega) (by omega)
      omega)
  unfold leqC
  refine afp ty_ok Tryz.call70 Tryz.func70 ?_
  generalize byC minusL a b = M at *
  rcases M with _ | ⟨x, M⟩
  · (try conv=>whnf)<;>repeat'((first|exact sNo|refine sT ?_|refine sF ?_|((first|refine sD ?_ ?_|refine sE ?_ ?_|refine sN ?_ ?_|refine sG ?_ ?_)<;>intro ht<;>(first|(cases ht;done)|skip))|refine wr ?_|refine ix ?_|refine ati ?_|refine row ?_|refine app ?_|refine dr ?_|refine VBs.own ?_|refine cf r1 ?_|refine cg r1 ?_|refine cz r1 ?_|fail)<;>(try conv=>whnf))
    all_goals rfl
  · have hl : (x :: M).length = M.length + 1 := rfl
    rw [show decide (x :: M = []) = false from decide_eq_false (by simp)]
    (try conv=>whnf)<;>repeat'((first|exact sNo|refine sT ?_|refine sF ?_|((first|refine sD ?_ ?_|refine sE ?_ ?_|refine sN ?_ ?_|refine sG ?_ ?_)<;>intro ht<;>(first|(cases ht;done)|skip))|refine wr ?_|refine ix ?_|refine ati ?_|refine row ?_|refine app ?_|refine dr ?_|refine VBs.own ?_|refine cf r1 ?_|refine cg r1 ?_|refine cz r1 ?_|fail)<;>(try conv=>whnf))
    all_goals rfl
theorem rcausR_a (t : Tr8) (c : List Spn) (hc : cntT t ≤ 100) (hl : c.length ≤ 200) : AFnP Tryz.prog 67 [.agg [lstE entE t.es, lstE kidRow t.ks, lstE spE c]] (.bool (causR t c)) := by
  refine afp ty_ok Tryz.call67 Tryz.func67 ?_
  have r1 := rtright_a t (by omega)
  unfold causR
  cases hr : rightT 5 t
  · rw [hr] at r1
    (try conv=>whnf)<;>repeat'((first|exact sNo|refine sT ?_|refine sF ?_|((first|refine sD ?_ ?_|refine sE ?_ ?_|refine sN ?_ ?_|refine sG ?_ ?_)<;>intro ht<;>(first|(cases ht;done)|skip))|refine wr ?_|refine ix ?_|refine ati ?_|refine row ?_|refine app ?_|refine dr ?_|refine VBs.own ?_|refine cf r1 ?_|refine cg r1 ?_|refine cz r1 ?_|fail)<;>(try conv=>whnf))
    all_goals rfl
  · rw [hr] at r1
    have r2 := rrightC_p (c := c) (by omega) rfl
    cases h2 : rightC c
    · rw [h2] at r2
      (try conv=>whnf)<;>repeat'((first|exact sNo|refine sT ?_|refine sF ?_|((first|refine sD ?_ ?_|refine sE ?_ ?_|refine sN ?_ ?_|refine sG ?_ ?_)<;>intro ht<;>(first|(cases ht;done)|skip))|refine wr ?_|refine ix ?_|refine ati ?_|refine row ?_|refine app ?_|refine dr ?_|refine VBs.own ?_|refine cf r1 ?_|refine cg r1 ?_|refine cz r1 ?_|refine cf r2 ?_|refine cg r2 ?_|refine cz r2 ?_|fail)<;>(try conv=>whnf))
      all_goals rfl
    · rw [h2] at r2
      have r3 := rdots_t t hr (by omega)
      have h1 := dots_lenB hc
      have r4 := rleq_a (dots_right hr) (rightC_iff.1 h2) h1 hl (by omega) (by omega) (by omega) rfl
      generalize leqC (ofC (allT t)) c = b at *
      generalize ofC (allT t) = d at *
      cases b
      all_goals
        (try conv=>whnf)<;>repeat'((first|(refine pr ?_;(try conv=>whnf);(fail_if_success (show False)))|exact sNo|refine sT ?_|refine sF ?_|((first|refine sD ?_ ?_|refine sE ?_ ?_|refine sN ?_ ?_|refine sG ?_ ?_)<;>intro ht<;>(first|(cases ht;done)|skip))|refine wr ?_|refine ix ?_|refine ati ?_|refine row ?_|refine app ?_|refine dr ?_|refine VBs.own ?_|refine cp r1 ?_|refine cf r1 ?_|refine cg r1 ?_|refine cz r1 ?_|refine cp r2 ?_|refine cf r2 ?_|refine cg r2 ?_|refine cz r2 ?_|refine cp r3 ?_|refine cf r3 ?_|refine cg r3 ?_|refine cz r3 ?_|refine cp r4 ?_|refine cf r4 ?_|refine cg r4 ?_|refine cz r4 ?_|fail)<;>(try conv=>whnf))
        all_goals rfl
theorem rcausS_a (t : Tr8) (c : List Spn) (hd : deepT t ≤ 9) (hc : cntT t ≤ 200) (hl : c.length ≤ 200) : AFnP Tryz.prog 65 [.agg [lstE entE t.es, lstE kidRow t.ks, lstE spE c], .agg [lstE entE t.es, lstE kidRow t.ks, lstE spE c]] (.bool true) := by
  refine afp ty_ok Tryz.call65 Tryz.func65 ?_
  have r1 := same_p (a := t) (b := t) 9 hd (by omega) (by omega) (sameT_refl 9 t hd)
  have r2 := rsameC_p (a := c) (b := c) (by omega) (by omega) (decide_eq_true rfl)
  (try conv=>whnf)<;>repeat'((first|exact sNo|refine sT ?_|refine sF ?_|((first|refine sD ?_ ?_|refine sE ?_ ?_|refine sN ?_ ?_|refine sG ?_ ?_)<;>intro ht<;>(first|(cases ht;done)|skip))|refine wr ?_|refine ix ?_|refine ati ?_|refine row ?_|refine app ?_|refine dr ?_|refine VBs.own ?_|refine cf r1 ?_|refine cg r1 ?_|refine cz r1 ?_|refine cf r2 ?_|refine cg r2 ?_|refine cz r2 ?_|fail)<;>(try conv=>whnf))
  all_goals rfl
theorem rsmall_a (t : Tr8) (c : List Spn) (n : Nat) (hn : n ≤ 100) (hb : bndT t) : AFnP Tryz.prog 54 [.agg [lstE entE t.es, lstE kidRow t.ks, lstE spE c], i64 (n : Int)] (.bool (decide (0 ≤ roomT 8 t n) && decide (c.length ≤ n))) := by
  refine afp ty_ok Tryz.call54 Tryz.func54 ?_
  have r1 := small_p t n hb (by omega) (by omega) rfl
  cases h : decide (0 ≤ roomT 8 t n)
  · rw [h] at r1
    (try conv=>whnf)<;>repeat'((first|exact sNo|refine sT ?_|refine sF ?_|((first|refine sD ?_ ?_|refine sE ?_ ?_|refine sN ?_ ?_|refine sG ?_ ?_)<;>intro ht<;>(first|(cases ht;done)|skip))|refine wr ?_|refine ix ?_|refine ati ?_|refine row ?_|refine app ?_|refine dr ?_|refine VBs.own ?_|refine cf r1 ?_|refine cg r1 ?_|refine cz r1 ?_|fail)<;>(try conv=>whnf))
    all_goals rfl
  · rw [h] at r1
    by_cases h2 : c.length ≤ n
    · rw [decide_eq_true h2]
      (try conv=>whnf)<;>repeat'((first|exact sNo|refine sT ?_|refine sF ?_|((first|refine sD ?_ ?_|refine sE ?_ ?_|refine sN ?_ ?_|refine sG ?_ ?_)<;>intro ht<;>(first|(cases ht;done)|skip))|refine wr ?_|refine ix ?_|refine ati ?_|refine row ?_|refine app ?_|refine dr ?_|refine VBs.own ?_|refine cf r1 ?_|refine cg r1 ?_|refine cz r1 ?_|fail)<;>(try conv=>whnf))
      all_goals rfl
    · rw [decide_eq_false h2]
      (try conv=>whnf)<;>repeat'((first|exact sNo|refine sT ?_|refine sF ?_|((first|refine sD ?_ ?_|refine sE ?_ ?_|refine sN ?_ ?_|refine sG ?_ ?_)<;>intro ht<;>(first|(cases ht;done)|skip))|refine wr ?_|refine ix ?_|refine ati ?_|refine row ?_|refine app ?_|refine dr ?_|refine VBs.own ?_|refine cf r1 ?_|refine cg r1 ?_|refine cz r1 ?_|fail)<;>(try conv=>whnf))
      all_goals rfl
end Go.Proofs.YtlghgdgpbnlpmaaGreat
