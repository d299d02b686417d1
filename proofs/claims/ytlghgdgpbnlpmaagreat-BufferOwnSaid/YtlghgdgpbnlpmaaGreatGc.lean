/- What is proved: what the functions of package bundle answer. Conditions: none. -/
import Derived.Test.YtlghgdgpbnlpmaaGreatMGa
namespace Go.Proofs.YtlghgdgpbnlpmaaGreat
open Go.RowKit
set_option linter.unusedVariables false
set_option linter.unusedSimpArgs false
set_option maxRecDepth 100000
set_option maxHeartbeats 16000000
/-- of a bundle the numbers that are small -/
structure SmB (b : Bun) : Prop where
  cnt : cntT b.t ≤ 100
  len : b.c.length ≤ 100
  deep : deepT b.t ≤ 9
theorem four_dn {d : Int} (h : 0 ≤ d ∧ d < 4) : (d = 0 ∧ d = ((0 : Nat) : Int)) ∨ (d = 1 ∧ d = ((1 : Nat) : Int)) ∨ (d = 2 ∧ d = ((2 : Nat) : Int)) ∨ (d = 3 ∧ d = ((3 : Nat) : Int)) := by omega
theorem names_a (b : Bun) : AFnP Tryz.prog 83 [.agg (bunE b)] (.bool (namesB b)) := by
  refine afp ty_ok Tryz.call83 Tryz.func83 ?_
  have r1 := cfull_a b.dp
  unfold fullE at r1
  unfold namesB
  by_cases hd : 0 ≤ b.dc ∧ b.dc < 4
  · rcases four_dn hd with ⟨hd', hd⟩ | ⟨hd', hd⟩ | ⟨hd', hd⟩ | ⟨hd', hd⟩
    all_goals
      have e := congrArg b.dp hd'
      cases hm : mayV b.dp
      · rw [hm] at r1
        (try conv=>whnf)<;>repeat'((first|exact sNo|refine sT ?_|refine sF ?_|((first|refine sD ?_ ?_|refine sE ?_ ?_|refine sN ?_ ?_|refine sG ?_ ?_)<;>intro ht<;>(first|(cases ht;done)|skip))|refine wr ?_|refine ix ?_|refine ati ?_|refine row ?_|refine app ?_|refine dr ?_|refine VBs.own ?_|refine cf r1 ?_|refine cg r1 ?_|refine cz r1 ?_|fail)<;>(try conv=>whnf))
        all_goals (refine congrArg AV.bool ?_; rw [Bool.and_false])
      · rw [hm] at r1
        generalize fullC b.dp = C at *
        (try conv=>whnf)<;>repeat'((first|exact sNo|refine sT ?_|refine sF ?_|((first|refine sD ?_ ?_|refine sE ?_ ?_|refine sN ?_ ?_|refine sG ?_ ?_)<;>intro ht<;>(first|(cases ht;done)|skip))|refine wr ?_|refine ix ?_|refine ati ?_|refine row ?_|refine app ?_|refine dr ?_|refine VBs.own ?_|refine cf r1 ?_|refine cg r1 ?_|refine cz r1 ?_|fail)<;>(try conv=>whnf))
        all_goals (refine congrArg AV.bool ?_; first | (rw [decide_eq_true (by omega)]; rfl) | (rw [decide_eq_false (by omega)]; rfl))
  · (try conv=>whnf)<;>repeat'((first|exact sNo|refine sT ?_|refine sF ?_|((first|refine sD ?_ ?_|refine sE ?_ ?_|refine sN ?_ ?_|refine sG ?_ ?_)<;>intro ht<;>(first|(cases ht;done)|skip))|refine wr ?_|refine ix ?_|refine ati ?_|refine row ?_|refine app ?_|refine dr ?_|refine VBs.own ?_|fail)<;>(try conv=>whnf))
    all_goals (refine congrArg AV.bool ?_; rw [decide_eq_false (by omega)]; rfl)
theorem names_p {b : Bun} {t : Bool} (h : namesB b = t) : AFnP Tryz.prog 83 [.agg (bunE b)] (.bool t) := by subst h; exact names_a b
theorem range_p {d a b : Int} (h1 : okDot (d, a) = true) (h2 : okDot (d, b) = true) (h : ¬ b < a) : AFnP Tryz.prog 112 [i64 d, i64 a, i64 b] (.tup [.lst 1 [[i64 d, i64 a, i64 b]], i64 0]) := by
  have := range_a d a b
  unfold rangeE at this
  rw [if_pos (by rw [h1, h2]; rfl), if_neg h] at this
  exact this
theorem own_a (b : Bun) (h : namesB b = true) : AFnP Tryz.prog 87 [.agg (bunE b)] (lstE spE (ownC b)) := by
  obtain ⟨⟨hd, h1, h2, h3, h5⟩, h6⟩ := namesB_iff.1 h
  have r1 := range_p (d := b.dc) (a := b.af + 1) (b := b.la) (okDot_iff.2 ⟨hd, by dsimp only; omega, by dsimp only; omega⟩) (okDot_iff.2 ⟨hd, by dsimp only; omega, by dsimp only; omega⟩) (by omega)
  refine afp ty_ok Tryz.call87 Tryz.func87 ?_
  (try conv=>whnf)<;>repeat'((first|exact sNo|refine sT ?_|refine sF ?_|((first|refine sD ?_ ?_|refine sE ?_ ?_|refine sN ?_ ?_|refine sG ?_ ?_)<;>intro ht<;>(first|(cases ht;done)|skip))|refine wr ?_|refine ix ?_|refine ati ?_|refine row ?_|refine app ?_|refine dr ?_|refine VBs.own ?_|refine cf r1 ?_|refine cg r1 ?_|refine cz r1 ?_|fail)<;>(try conv=>whnf))
  all_goals rfl
theorem may_a (b : Bun) (h : namesB b = true) : AFnP Tryz.prog 88 [.agg (bunE b)] (lstE spE (mayC b)) := by
  obtain ⟨⟨hd, h1, h2, h3, h5⟩, h6⟩ := namesB_iff.1 h
  have r1 := cfull_a (setV b.dp b.dc b.la)
  unfold fullE at r1
  rw [if_pos (mayV_set h (by omega) h3)] at r1
  refine afp ty_ok Tryz.call88 Tryz.func88 ?_
  unfold mayC
  rcases four_dn hd with ⟨hd', hd⟩ | ⟨hd', hd⟩ | ⟨hd', hd⟩ | ⟨hd', hd⟩
  · rw [hd', vecE_set0] at r1
    rw [hd']
    generalize fullC (setV b.dp 0 b.la) = C at *
    (try conv=>whnf)<;>repeat'((first|exact sNo|refine sT ?_|refine sF ?_|((first|refine sD ?_ ?_|refine sE ?_ ?_|refine sN ?_ ?_|refine sG ?_ ?_)<;>intro ht<;>(first|(cases ht;done)|skip))|refine wr ?_|refine ix ?_|refine ati ?_|refine row ?_|refine app ?_|refine dr ?_|refine VBs.own ?_|refine cf r1 ?_|refine cg r1 ?_|refine cz r1 ?_|fail)<;>(try conv=>whnf))
    all_goals rfl
  · rw [hd', vecE_set1] at r1
    rw [hd']
    generalize fullC (setV b.dp 1 b.la) = C at *
    (try conv=>whnf)<;>repeat'((first|exact sNo|refine sT ?_|refine sF ?_|((first|refine sD ?_ ?_|refine sE ?_ ?_|refine sN ?_ ?_|refine sG ?_ ?_)<;>intro ht<;>(first|(cases ht;done)|skip))|refine wr ?_|refine ix ?_|refine ati ?_|refine row ?_|refine app ?_|refine dr ?_|refine VBs.own ?_|refine cf r1 ?_|refine cg r1 ?_|refine cz r1 ?_|fail)<;>(try conv=>whnf))
    all_goals rfl
  · rw [hd', vecE_set2] at r1
    rw [hd']
    generalize fullC (setV b.dp 2 b.la) = C at *
    (try conv=>whnf)<;>repeat'((first|exact sNo|refine sT ?_|refine sF ?_|((first|refine sD ?_ ?_|refine sE ?_ ?_|refine sN ?_ ?_|refine sG ?_ ?_)<;>intro ht<;>(first|(cases ht;done)|skip))|refine wr ?_|refine ix ?_|refine ati ?_|refine row ?_|refine app ?_|refine dr ?_|refine VBs.own ?_|refine cf r1 ?_|refine cg r1 ?_|refine cz r1 ?_|fail)<;>(try conv=>whnf))
    all_goals rfl
  · rw [hd', vecE_set3] at r1
    rw [hd']
    generalize fullC (setV b.dp 3 b.la) = C at *
    (try conv=>whnf)<;>repeat'((first|exact sNo|refine sT ?_|refine sF ?_|((first|refine sD ?_ ?_|refine sE ?_ ?_|refine sN ?_ ?_|refine sG ?_ ?_)<;>intro ht<;>(first|(cases ht;done)|skip))|refine wr ?_|refine ix ?_|refine ati ?_|refine row ?_|refine app ?_|refine dr ?_|refine VBs.own ?_|refine cf r1 ?_|refine cg r1 ?_|refine cz r1 ?_|fail)<;>(try conv=>whnf))
    all_goals rfl
theorem fullC_len (v : Int → Int) : (fullC v).length ≤ 4 := by
  unfold fullC
  rw [whole_len]
  have g : ∀ n, (run1 n).length ≤ 1 := fun n => by unfold run1; split <;> simp
  have g0 := g (v 0)
  have g1 := g (v 1)
  have g2 := g (v 2)
  have g3 := g (v 3)
  omega
theorem bright_a (b : Bun) (hb : SmB b) : AFnP Tryz.prog 55 [.agg (bunE b)] (.bool (rightB b)) := by
  refine afp ty_ok Tryz.call55 Tryz.func55 ?_
  unfold rightB
  have hc := hb.cnt
  have hl := hb.len
  cases hN : namesB b
  · have r1 := names_p hN
    (try conv=>whnf)<;>repeat'((first|exact sNo|refine sT ?_|refine sF ?_|((first|refine sD ?_ ?_|refine sE ?_ ?_|refine sN ?_ ?_|refine sG ?_ ?_)<;>intro ht<;>(first|(cases ht;done)|skip))|refine wr ?_|refine ix ?_|refine ati ?_|refine row ?_|refine app ?_|refine dr ?_|refine VBs.own ?_|refine cf r1 ?_|refine cg r1 ?_|refine cz r1 ?_|fail)<;>(try conv=>whnf))
    all_goals rfl
  have r1 := names_p hN
  cases hC : causR b.t b.c
  · have r2 := causR_p (by omega) (by omega) hC
    (try conv=>whnf)<;>repeat'((first|exact sNo|refine sT ?_|refine sF ?_|((first|refine sD ?_ ?_|refine sE ?_ ?_|refine sN ?_ ?_|refine sG ?_ ?_)<;>intro ht<;>(first|(cases ht;done)|skip))|refine wr ?_|refine ix ?_|refine ati ?_|refine row ?_|refine app ?_|refine dr ?_|refine VBs.own ?_|refine cf r1 ?_|refine cg r1 ?_|refine cz r1 ?_|refine cf r2 ?_|refine cg r2 ?_|refine cz r2 ?_|fail)<;>(try conv=>whnf))
    all_goals rfl
  have r2 := causR_p (t := b.t) (c := b.c) (by omega) (by omega) hC
  by_cases hE : b.t.es.length = 0
  · rw [decide_eq_true hE]
    have hC' := hC
    unfold causR at hC'
    simp only [Bool.and_eq_true] at hC'
    obtain ⟨hT, hX, -⟩ := hC'
    have hX := rightC_iff.1 hX
    have r3 := tdots_t b.t hT (by omega)
    have h1 := dots_lenB hc
    have r4 := own_a b hN
    have r5 := may_a b hN
    have n1 := namesB_iff.1 hN
    have ho := ownC_right hN
    have hm : RightC (mayC b) := fullC_right (mayV_set hN (by omega) (by omega))
    have hml : (mayC b).length ≤ 4 := fullC_len _
    have hol : (ownC b).length ≤ 1 := Nat.le_refl _
    have q1 := leq_p (dots_right hT) ho h1 hol (by omega) (by omega) (by omega) rfl
    have q2 := leq_p ho hX hol hl (by omega) (by omega) (by omega) rfl
    have q3 := leq_p hX hm hl hml (by omega) (by omega) (by omega) rfl
    generalize leqC (ofC (allT b.t)) (ownC b) = b1 at *
    generalize leqC (ownC b) b.c = b2 at *
    generalize leqC b.c (mayC b) = b3 at *
    clear h1 hm ho hml hol n1
    generalize ofC (allT b.t) = d at *
    generalize ownC b = o at *
    generalize mayC b = m at *
    cases b1
    · (try conv=>whnf)<;>repeat'((first|(refine pr ?_;(try conv=>whnf);(fail_if_success (show False)))|exact sNo|refine sT ?_|refine sF ?_|((first|refine sD ?_ ?_|refine sE ?_ ?_|refine sN ?_ ?_|refine sG ?_ ?_)<;>intro ht<;>(first|(cases ht;done)|skip))|refine wr ?_|refine ix ?_|refine ati ?_|refine row ?_|refine app ?_|refine dr ?_|refine VBs.own ?_|refine cp r1 ?_|refine cf r1 ?_|refine cg r1 ?_|refine cz r1 ?_|refine cp r2 ?_|refine cf r2 ?_|refine cg r2 ?_|refine cz r2 ?_|refine cp r3 ?_|refine cf r3 ?_|refine cg r3 ?_|refine cz r3 ?_|refine cp r4 ?_|refine cf r4 ?_|refine cg r4 ?_|refine cz r4 ?_|refine cp q1 ?_|refine cf q1 ?_|refine cg q1 ?_|refine cz q1 ?_|fail)<;>(try conv=>whnf))
      all_goals rfl
    cases b2
    · (try conv=>whnf)<;>repeat'((first|(refine pr ?_;(try conv=>whnf);(fail_if_success (show False)))|exact sNo|refine sT ?_|refine sF ?_|((first|refine sD ?_ ?_|refine sE ?_ ?_|refine sN ?_ ?_|refine sG ?_ ?_)<;>intro ht<;>(first|(cases ht;done)|skip))|refine wr ?_|refine ix ?_|refine ati ?_|refine row ?_|refine app ?_|refine dr ?_|refine VBs.own ?_|refine cp r1 ?_|refine cf r1 ?_|refine cg r1 ?_|refine cz r1 ?_|refine cp r2 ?_|refine cf r2 ?_|refine cg r2 ?_|refine cz r2 ?_|refine cp r3 ?_|refine cf r3 ?_|refine cg r3 ?_|refine cz r3 ?_|refine cp r4 ?_|refine cf r4 ?_|refine cg r4 ?_|refine cz r4 ?_|refine cp q1 ?_|refine cf q1 ?_|refine cg q1 ?_|refine cz q1 ?_|refine cp q2 ?_|refine cf q2 ?_|refine cg q2 ?_|refine cz q2 ?_|fail)<;>(try conv=>whnf))
      all_goals rfl
    · cases b3
      all_goals
        (try conv=>whnf)<;>repeat'((first|(refine pr ?_;(try conv=>whnf);(fail_if_success (show False)))|exact sNo|refine sT ?_|refine sF ?_|((first|refine sD ?_ ?_|refine sE ?_ ?_|refine sN ?_ ?_|refine sG ?_ ?_)<;>intro ht<;>(first|(cases ht;done)|skip))|refine wr ?_|refine ix ?_|refine ati ?_|refine row ?_|refine app ?_|refine dr ?_|refine VBs.own ?_|refine cp r1 ?_|refine cf r1 ?_|refine cg r1 ?_|refine cz r1 ?_|refine cp r2 ?_|refine cf r2 ?_|refine cg r2 ?_|refine cz r2 ?_|refine cp r3 ?_|refine cf r3 ?_|refine cg r3 ?_|refine cz r3 ?_|refine cp r4 ?_|refine cf r4 ?_|refine cg r4 ?_|refine cz r4 ?_|refine cp r5 ?_|refine cf r5 ?_|refine cg r5 ?_|refine cz r5 ?_|refine cp q1 ?_|refine cf q1 ?_|refine cg q1 ?_|refine cz q1 ?_|refine cp q2 ?_|refine cf q2 ?_|refine cg q2 ?_|refine cz q2 ?_|refine cp q3 ?_|refine cf q3 ?_|refine cg q3 ?_|refine cz q3 ?_|fail)<;>(try conv=>whnf))
        all_goals rfl
  · rw [decide_eq_false hE]
    (try conv=>whnf)<;>repeat'((first|exact sNo|refine sT ?_|refine sF ?_|((first|refine sD ?_ ?_|refine sE ?_ ?_|refine sN ?_ ?_|refine sG ?_ ?_)<;>intro ht<;>(first|(cases ht;done)|skip))|refine wr ?_|refine ix ?_|refine ati ?_|refine row ?_|refine app ?_|refine dr ?_|refine VBs.own ?_|refine cf r1 ?_|refine cg r1 ?_|refine cz r1 ?_|refine cf r2 ?_|refine cg r2 ?_|refine cz r2 ?_|fail)<;>(try conv=>whnf))
    all_goals rfl
theorem bright_p {b : Bun} (hb : SmB b) {t : Bool} (h : rightB b = t) : AFnP Tryz.prog 55 [.agg (bunE b)] (.bool t) := by subst h; exact bright_a b hb
theorem bclone_t (b : Bun) (hb : SmB b) (h : rightB b = true) : AFnP Tryz.prog 60 [.agg (bunE b)] (.agg (bunE b)) := by
  refine afp ty_ok Tryz.call60 Tryz.func60 ?_
  have hc := hb.cnt
  have hl := hb.len
  have r1 := bright_p hb h
  have r2 := causC_a b.t b.c (by omega) (by omega) (right_caus h)
  (try conv=>whnf)<;>repeat'((first|exact sNo|refine sT ?_|refine sF ?_|((first|refine sD ?_ ?_|refine sE ?_ ?_|refine sN ?_ ?_|refine sG ?_ ?_)<;>intro ht<;>(first|(cases ht;done)|skip))|refine wr ?_|refine ix ?_|refine ati ?_|refine row ?_|refine app ?_|refine dr ?_|refine VBs.own ?_|refine cf r1 ?_|refine cg r1 ?_|refine cz r1 ?_|refine cf r2 ?_|refine cg r2 ?_|refine cz r2 ?_|fail)<;>(try conv=>whnf))
  all_goals rfl
theorem bready_a (b : Bun) (hb : SmB b) (v : Int → Int) : AFnP Tryz.prog 29 [.agg (bunE b), vecE v] (.bool (readyB b v)) := by
  refine afp ty_ok Tryz.call29 Tryz.func29 ?_
  unfold readyB
  cases hR : rightB b
  · have r1 := bright_p hb hR
    (try conv=>whnf)<;>repeat'((first|exact sNo|refine sT ?_|refine sF ?_|((first|refine sD ?_ ?_|refine sE ?_ ?_|refine sN ?_ ?_|refine sG ?_ ?_)<;>intro ht<;>(first|(cases ht;done)|skip))|refine wr ?_|refine ix ?_|refine ati ?_|refine row ?_|refine app ?_|refine dr ?_|refine VBs.own ?_|refine cf r1 ?_|refine cg r1 ?_|refine cz r1 ?_|fail)<;>(try conv=>whnf))
    all_goals rfl
  have r1 := bright_p hb hR
  have hd := (right_nums hR).1.1
  clear hb hR
  by_cases hv : v b.dc = b.af
  · rw [decide_eq_true hv]
    rcases four_dn hd with ⟨hd', hd⟩ | ⟨hd', hd⟩ | ⟨hd', hd⟩ | ⟨hd', hd⟩
    all_goals
      have e := congrArg v hd'
      (try conv=>whnf)<;>repeat'((first|exact sNo|refine sT ?_|refine sF ?_|((first|refine sD ?_ ?_|refine sE ?_ ?_|refine sN ?_ ?_|refine sG ?_ ?_)<;>intro ht<;>(first|(cases ht;done)|skip))|refine wr ?_|refine ix ?_|refine ati ?_|refine row ?_|refine app ?_|refine dr ?_|refine VBs.own ?_|refine cf r1 ?_|refine cg r1 ?_|refine cz r1 ?_|fail)<;>(try conv=>whnf))
      refine VLp.mk ⟨[], [3], [21], fun k vs h => (vs = [i64 0] ∧ h = [.blk 0 [i64 (v 0), i64 (v 1), i64 (v 2), i64 (v 3)] 33] ∧ k = 4) ∨ (vs = [i64 1] ∧ h = [.blk 0 [i64 (v 0), i64 (v 1), i64 (v 2), i64 (v 3)] 33] ∧ b.dp 0 ≤ v 0 ∧ k = 3) ∨ (vs = [i64 2] ∧ h = [.blk 0 [i64 (v 0), i64 (v 1), i64 (v 2), i64 (v 3)] 33] ∧ b.dp 0 ≤ v 0 ∧ b.dp 1 ≤ v 1 ∧ k = 2) ∨ (vs = [i64 3] ∧ h = [.blk 0 [i64 (v 0), i64 (v 1), i64 (v 2), i64 (v 3)] 33] ∧ b.dp 0 ≤ v 0 ∧ b.dp 1 ≤ v 1 ∧ b.dp 2 ≤ v 2 ∧ k = 1) ∨ (vs = [i64 4] ∧ h = [.blk 0 [i64 (v 0), i64 (v 1), i64 (v 2), i64 (v 3)] 33] ∧ b.dp 0 ≤ v 0 ∧ b.dp 1 ≤ v 1 ∧ b.dp 2 ≤ v 2 ∧ b.dp 3 ≤ v 3 ∧ k = 0), 4, ?_⟩
      conv => whnf
      refine ⟨.inl ⟨rfl, rfl, rfl⟩, ?_⟩
      rintro k vs h (⟨rfl, rfl, rfl⟩ | ⟨rfl, rfl, h0, rfl⟩ | ⟨rfl, rfl, h0, h1, rfl⟩ | ⟨rfl, rfl, h0, h1, h2, rfl⟩ | ⟨rfl, rfl, h0, h1, h2, h3, rfl⟩)
      · by_cases h0 : b.dp 0 ≤ v 0
        · (try conv=>whnf)<;>repeat'((first|exact sNo|refine sT ?_|refine sF ?_|((first|refine sD ?_ ?_|refine sE ?_ ?_|refine sN ?_ ?_|refine sG ?_ ?_)<;>intro ht<;>(first|(cases ht;done)|skip))|refine wr ?_|refine ix ?_|refine ati ?_|refine row ?_|refine app ?_|refine dr ?_|refine VBs.own ?_|fail)<;>(try conv=>whnf))
          all_goals exact VRd.mk rfl ⟨3, by omega, .inr (.inl (⟨rfl, rfl, h0, rfl⟩))⟩
        · (try conv=>whnf)<;>repeat'((first|exact sNo|refine sT ?_|refine sF ?_|((first|refine sD ?_ ?_|refine sE ?_ ?_|refine sN ?_ ?_|refine sG ?_ ?_)<;>intro ht<;>(first|(cases ht;done)|skip))|refine wr ?_|refine ix ?_|refine ati ?_|refine row ?_|refine app ?_|refine dr ?_|refine VBs.own ?_|fail)<;>(try conv=>whnf))
          all_goals exact congrArg AV.bool (by rw [atMost_no (v := b.dp) (w := v) (d := 0) (by omega) (by omega) h0]; rfl)
      · by_cases h1 : b.dp 1 ≤ v 1
        · (try conv=>whnf)<;>repeat'((first|exact sNo|refine sT ?_|refine sF ?_|((first|refine sD ?_ ?_|refine sE ?_ ?_|refine sN ?_ ?_|refine sG ?_ ?_)<;>intro ht<;>(first|(cases ht;done)|skip))|refine wr ?_|refine ix ?_|refine ati ?_|refine row ?_|refine app ?_|refine dr ?_|refine VBs.own ?_|fail)<;>(try conv=>whnf))
          all_goals exact VRd.mk rfl ⟨2, by omega, .inr (.inr (.inl (⟨rfl, rfl, h0, h1, rfl⟩)))⟩
        · (try conv=>whnf)<;>repeat'((first|exact sNo|refine sT ?_|refine sF ?_|((first|refine sD ?_ ?_|refine sE ?_ ?_|refine sN ?_ ?_|refine sG ?_ ?_)<;>intro ht<;>(first|(cases ht;done)|skip))|refine wr ?_|refine ix ?_|refine ati ?_|refine row ?_|refine app ?_|refine dr ?_|refine VBs.own ?_|fail)<;>(try conv=>whnf))
          all_goals exact congrArg AV.bool (by rw [atMost_no (v := b.dp) (w := v) (d := 1) (by omega) (by omega) h1]; rfl)
      · by_cases h2 : b.dp 2 ≤ v 2
        · (try conv=>whnf)<;>repeat'((first|exact sNo|refine sT ?_|refine sF ?_|((first|refine sD ?_ ?_|refine sE ?_ ?_|refine sN ?_ ?_|refine sG ?_ ?_)<;>intro ht<;>(first|(cases ht;done)|skip))|refine wr ?_|refine ix ?_|refine ati ?_|refine row ?_|refine app ?_|refine dr ?_|refine VBs.own ?_|fail)<;>(try conv=>whnf))
          all_goals exact VRd.mk rfl ⟨1, by omega, .inr (.inr (.inr (.inl (⟨rfl, rfl, h0, h1, h2, rfl⟩))))⟩
        · (try conv=>whnf)<;>repeat'((first|exact sNo|refine sT ?_|refine sF ?_|((first|refine sD ?_ ?_|refine sE ?_ ?_|refine sN ?_ ?_|refine sG ?_ ?_)<;>intro ht<;>(first|(cases ht;done)|skip))|refine wr ?_|refine ix ?_|refine ati ?_|refine row ?_|refine app ?_|refine dr ?_|refine VBs.own ?_|fail)<;>(try conv=>whnf))
          all_goals exact congrArg AV.bool (by rw [atMost_no (v := b.dp) (w := v) (d := 2) (by omega) (by omega) h2]; rfl)
      · by_cases h3 : b.dp 3 ≤ v 3
        · (try conv=>whnf)<;>repeat'((first|exact sNo|refine sT ?_|refine sF ?_|((first|refine sD ?_ ?_|refine sE ?_ ?_|refine sN ?_ ?_|refine sG ?_ ?_)<;>intro ht<;>(first|(cases ht;done)|skip))|refine wr ?_|refine ix ?_|refine ati ?_|refine row ?_|refine app ?_|refine dr ?_|refine VBs.own ?_|fail)<;>(try conv=>whnf))
          all_goals exact VRd.mk rfl ⟨0, by omega, .inr (.inr (.inr (.inr (⟨rfl, rfl, h0, h1, h2, h3, rfl⟩))))⟩
        · (try conv=>whnf)<;>repeat'((first|exact sNo|refine sT ?_|refine sF ?_|((first|refine sD ?_ ?_|refine sE ?_ ?_|refine sN ?_ ?_|refine sG ?_ ?_)<;>intro ht<;>(first|(cases ht;done)|skip))|refine wr ?_|refine ix ?_|refine ati ?_|refine row ?_|refine app ?_|refine dr ?_|refine VBs.own ?_|fail)<;>(try conv=>whnf))
          all_goals exact congrArg AV.bool (by rw [atMost_no (v := b.dp) (w := v) (d := 3) (by omega) (by omega) h3]; rfl)
      · (try conv=>whnf)<;>repeat'((first|exact sNo|refine sT ?_|refine sF ?_|((first|refine sD ?_ ?_|refine sE ?_ ?_|refine sN ?_ ?_|refine sG ?_ ?_)<;>intro ht<;>(first|(cases ht;done)|skip))|refine wr ?_|refine ix ?_|refine ati ?_|refine row ?_|refine app ?_|refine dr ?_|refine VBs.own ?_|fail)<;>(try conv=>whnf))
        all_goals exact congrArg AV.bool (by rw [atMost_iff.2 (four h0 h1 h2 h3)]; rfl)
  · rw [decide_eq_false hv]
    rcases four_dn hd with ⟨hd', hd⟩ | ⟨hd', hd⟩ | ⟨hd', hd⟩ | ⟨hd', hd⟩
    all_goals
      have e := congrArg v hd'
      (try conv=>whnf)<;>repeat'((first|exact sNo|refine sT ?_|refine sF ?_|((first|refine sD ?_ ?_|refine sE ?_ ?_|refine sN ?_ ?_|refine sG ?_ ?_)<;>intro ht<;>(first|(cases ht;done)|skip))|refine wr ?_|refine ix ?_|refine ati ?_|refine row ?_|refine app ?_|refine dr ?_|refine VBs.own ?_|refine cf r1 ?_|refine cg r1 ?_|refine cz r1 ?_|fail)<;>(try conv=>whnf))
      all_goals rfl
theorem bready_p {b : Bun} (hb : SmB b) {v : Int → Int} {t : Bool} (h : readyB b v = t) : AFnP Tryz.prog 29 [.agg (bunE b), vecE v] (.bool t) := by subst h; exact bready_a b hb v
theorem bknown_a (b : Bun) (hb : SmB b) (v : Int → Int) : AFnP Tryz.prog 32 [.agg (bunE b), vecE v] (.bool (knownB b v)) := by
  refine afp ty_ok Tryz.call32 Tryz.func32 ?_
  unfold knownB
  cases hR : rightB b
  · have r1 := bright_p hb hR
    (try conv=>whnf)<;>repeat'((first|exact sNo|refine sT ?_|refine sF ?_|((first|refine sD ?_ ?_|refine sE ?_ ?_|refine sN ?_ ?_|refine sG ?_ ?_)<;>intro ht<;>(first|(cases ht;done)|skip))|refine wr ?_|refine ix ?_|refine ati ?_|refine row ?_|refine app ?_|refine dr ?_|refine VBs.own ?_|refine cf r1 ?_|refine cg r1 ?_|refine cz r1 ?_|fail)<;>(try conv=>whnf))
    all_goals rfl
  have r1 := bright_p hb hR
  have hd := (right_nums hR).1.1
  clear hb hR
  rcases four_dn hd with ⟨hd', hd⟩ | ⟨hd', hd⟩ | ⟨hd', hd⟩ | ⟨hd', hd⟩
  all_goals
    have e := congrArg v hd'
    by_cases hk : b.la ≤ v b.dc
    · rw [decide_eq_true hk]
      (try conv=>whnf)<;>repeat'((first|exact sNo|refine sT ?_|refine sF ?_|((first|refine sD ?_ ?_|refine sE ?_ ?_|refine sN ?_ ?_|refine sG ?_ ?_)<;>intro ht<;>(first|(cases ht;done)|skip))|refine wr ?_|refine ix ?_|refine ati ?_|refine row ?_|refine app ?_|refine dr ?_|refine VBs.own ?_|refine cf r1 ?_|refine cg r1 ?_|refine cz r1 ?_|fail)<;>(try conv=>whnf))
      all_goals rfl
    · rw [decide_eq_false hk]
      (try conv=>whnf)<;>repeat'((first|exact sNo|refine sT ?_|refine sF ?_|((first|refine sD ?_ ?_|refine sE ?_ ?_|refine sN ?_ ?_|refine sG ?_ ?_)<;>intro ht<;>(first|(cases ht;done)|skip))|refine wr ?_|refine ix ?_|refine ati ?_|refine row ?_|refine app ?_|refine dr ?_|refine VBs.own ?_|refine cf r1 ?_|refine cg r1 ?_|refine cz r1 ?_|fail)<;>(try conv=>whnf))
      all_goals rfl
theorem bknown_p {b : Bun} (hb : SmB b) {v : Int → Int} {t : Bool} (h : knownB b v = t) : AFnP Tryz.prog 32 [.agg (bunE b), vecE v] (.bool t) := by subst h; exact bknown_a b hb v
theorem bbehind_a (b : Bun) (hb : SmB b) (h : rightB b = true) (v : Int → Int) : AFnP Tryz.prog 30 [vecE v, .agg (bunE b)] (vecE (behV v b)) := by
  refine afp ty_ok Tryz.call30 Tryz.func30 ?_
  have r1 := bright_p hb h
  have hd := (right_nums h).1.1
  clear hb h
  unfold behV
  (try conv=>whnf)<;>repeat'((first|exact sNo|refine sT ?_|refine sF ?_|((first|refine sD ?_ ?_|refine sE ?_ ?_|refine sN ?_ ?_|refine sG ?_ ?_)<;>intro ht<;>(first|(cases ht;done)|skip))|refine wr ?_|refine ix ?_|refine ati ?_|refine row ?_|refine app ?_|refine dr ?_|refine VBs.own ?_|refine cf r1 ?_|refine cg r1 ?_|refine cz r1 ?_|fail)<;>(try conv=>whnf))
  refine VLp.mk ⟨[], [2, 3, 4], [13], fun k vs h => (vs = [i64 0] ∧ h = [.blk 0 [i64 (v 0), i64 (v 1), i64 (v 2), i64 (v 3)] 33, .blk 1 (bunE b) 50, .blk 2 [i64 0, i64 0, i64 0, i64 0] 33] ∧ k = 4) ∨ (vs = [i64 1] ∧ h = [.blk 0 [i64 (mxV v b.dp 0), i64 (v 1), i64 (v 2), i64 (v 3)] 33, .blk 1 (bunE b) 50, .blk 2 [i64 0, i64 0, i64 0, i64 0] 33] ∧ k = 3) ∨ (vs = [i64 2] ∧ h = [.blk 0 [i64 (mxV v b.dp 0), i64 (mxV v b.dp 1), i64 (v 2), i64 (v 3)] 33, .blk 1 (bunE b) 50, .blk 2 [i64 0, i64 0, i64 0, i64 0] 33] ∧ k = 2) ∨ (vs = [i64 3] ∧ h = [.blk 0 [i64 (mxV v b.dp 0), i64 (mxV v b.dp 1), i64 (mxV v b.dp 2), i64 (v 3)] 33, .blk 1 (bunE b) 50, .blk 2 [i64 0, i64 0, i64 0, i64 0] 33] ∧ k = 1) ∨ (vs = [i64 4] ∧ h = [.blk 0 [i64 (mxV v b.dp 0), i64 (mxV v b.dp 1), i64 (mxV v b.dp 2), i64 (mxV v b.dp 3)] 33, .blk 1 (bunE b) 50, .blk 2 [i64 0, i64 0, i64 0, i64 0] 33] ∧ k = 0), 4, ?_⟩
  conv => whnf
  refine ⟨.inl ⟨rfl, rfl, rfl⟩, ?_⟩
  rintro k vs h (⟨rfl, rfl, rfl⟩ | ⟨rfl, rfl, rfl⟩ | ⟨rfl, rfl, rfl⟩ | ⟨rfl, rfl, rfl⟩ | ⟨rfl, rfl, rfl⟩)
  · (try conv=>whnf)<;>repeat'((first|exact sNo|refine sT ?_|refine sF ?_|((first|refine sD ?_ ?_|refine sE ?_ ?_|refine sN ?_ ?_|refine sG ?_ ?_)<;>intro ht<;>(first|(cases ht;done)|skip))|refine wr ?_|refine ix ?_|refine ati ?_|refine row ?_|refine app ?_|refine dr ?_|refine VBs.own ?_|fail)<;>(try conv=>whnf))
    all_goals exact VRd.mk rfl ⟨3, by omega, .inr (.inl (⟨rfl, rfl, rfl⟩))⟩
  · (try conv=>whnf)<;>repeat'((first|exact sNo|refine sT ?_|refine sF ?_|((first|refine sD ?_ ?_|refine sE ?_ ?_|refine sN ?_ ?_|refine sG ?_ ?_)<;>intro ht<;>(first|(cases ht;done)|skip))|refine wr ?_|refine ix ?_|refine ati ?_|refine row ?_|refine app ?_|refine dr ?_|refine VBs.own ?_|fail)<;>(try conv=>whnf))
    all_goals exact VRd.mk rfl ⟨2, by omega, .inr (.inr (.inl (⟨rfl, rfl, rfl⟩)))⟩
  · (try conv=>whnf)<;>repeat'((first|exact sNo|refine sT ?_|refine sF ?_|((first|refine sD ?_ ?_|refine sE ?_ ?_|refine sN ?_ ?_|refine sG ?_ ?_)<;>intro ht<;>(first|(cases ht;done)|skip))|refine wr ?_|refine ix ?_|refine ati ?_|refine row ?_|refine app ?_|refine dr ?_|refine VBs.own ?_|fail)<;>(try conv=>whnf))
    all_goals exact VRd.mk rfl ⟨1, by omega, .inr (.inr (.inr (.inl (⟨rfl, rfl, rfl⟩))))⟩
  · (try conv=>whnf)<;>repeat'((first|exact sNo|refine sT ?_|refine sF ?_|((first|refine sD ?_ ?_|refine sE ?_ ?_|refine sN ?_ ?_|refine sG ?_ ?_)<;>intro ht<;>(first|(cases ht;done)|skip))|refine wr ?_|refine ix ?_|refine ati ?_|refine row ?_|refine app ?_|refine dr ?_|refine VBs.own ?_|fail)<;>(try conv=>whnf))
    all_goals exact VRd.mk rfl ⟨0, by omega, .inr (.inr (.inr (.inr (⟨rfl, rfl, rfl⟩))))⟩
  · rcases four_dn hd with ⟨hd', hd⟩ | ⟨hd', hd⟩ | ⟨hd', hd⟩ | ⟨hd', hd⟩
    · rw [hd', vecE_set0]
      (try conv=>whnf)<;>repeat'((first|exact sNo|refine sT ?_|refine sF ?_|((first|refine sD ?_ ?_|refine sE ?_ ?_|refine sN ?_ ?_|refine sG ?_ ?_)<;>intro ht<;>(first|(cases ht;done)|skip))|refine wr ?_|refine ix ?_|refine ati ?_|refine row ?_|refine app ?_|refine dr ?_|refine VBs.own ?_|fail)<;>(try conv=>whnf))
      all_goals rfl
    · rw [hd', vecE_set1]
      (try conv=>whnf)<;>repeat'((first|exact sNo|refine sT ?_|refine sF ?_|((first|refine sD ?_ ?_|refine sE ?_ ?_|refine sN ?_ ?_|refine sG ?_ ?_)<;>intro ht<;>(first|(cases ht;done)|skip))|refine wr ?_|refine ix ?_|refine ati ?_|refine row ?_|refine app ?_|refine dr ?_|refine VBs.own ?_|fail)<;>(try conv=>whnf))
      all_goals rfl
    · rw [hd', vecE_set2]
      (try conv=>whnf)<;>repeat'((first|exact sNo|refine sT ?_|refine sF ?_|((first|refine sD ?_ ?_|refine sE ?_ ?_|refine sN ?_ ?_|refine sG ?_ ?_)<;>intro ht<;>(first|(cases ht;done)|skip))|refine wr ?_|refine ix ?_|refine ati ?_|refine row ?_|refine app ?_|refine dr ?_|refine VBs.own ?_|fail)<;>(try conv=>whnf))
      all_goals rfl
    · rw [hd', vecE_set3]
      (try conv=>whnf)<;>repeat'((first|exact sNo|refine sT ?_|refine sF ?_|((first|refine sD ?_ ?_|refine sE ?_ ?_|refine sN ?_ ?_|refine sG ?_ ?_)<;>intro ht<;>(first|(cases ht;done)|skip))|refine wr ?_|refine ix ?_|refine ati ?_|refine row ?_|refine app ?_|refine dr ?_|refine VBs.own ?_|fail)<;>(try conv=>whnf))
      all_goals rfl
theorem bsame_t (b : Bun) (hb : SmB b) (h : rightB b = true) : AFnP Tryz.prog 33 [.agg (bunE b), .agg (bunE b)] (.bool true) := by
  refine afp ty_ok Tryz.call33 Tryz.func33 ?_
  have hc := hb.cnt
  have hl := hb.len
  have r1 := bright_p hb h
  have r2 := causS_a b.t b.c (by omega) (by omega) (right_caus h)
  (try conv=>whnf)<;>repeat'((first|exact sNo|refine sT ?_|refine sF ?_|((first|refine sD ?_ ?_|refine sE ?_ ?_|refine sN ?_ ?_|refine sG ?_ ?_)<;>intro ht<;>(first|(cases ht;done)|skip))|refine wr ?_|refine ix ?_|refine ati ?_|refine row ?_|refine app ?_|refine dr ?_|refine VBs.own ?_|refine cf r1 ?_|refine cg r1 ?_|refine cz r1 ?_|refine cf r2 ?_|refine cg r2 ?_|refine cz r2 ?_|fail)<;>(try conv=>whnf))
  all_goals first | rfl | simp_all
end Go.Proofs.YtlghgdgpbnlpmaaGreat
