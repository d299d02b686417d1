/- What is proved: what the functions of vectors, of package context and of chapter 07's reference, answer. Conditions: none. -/
import Derived.Test.YtlghgdgpbnlpmaaGreatMKe
import Derived.Test.YtlghgdgpbnlpmaaGreatMTb
import Derived.Test.YtlghgdgpbnlpmaaGreatMTa
import Derived.Test.YtlghgdgpbnlpmaaGreatTv
namespace Go.Proofs.YtlghgdgpbnlpmaaGreat
open Go.RowKit
set_option linter.unusedVariables false
set_option linter.unusedSimpArgs false
set_option maxRecDepth 100000
set_option maxHeartbeats 16000000
theorem mayV_no {v : Int → Int} {d : Int} (h0 : 0 ≤ d) (h4 : d < 4) (h : ¬ (0 ≤ v d ∧ v d ≤ 1099511627776)) : mayV v = false := by
  cases hm : mayV v
  · rfl
  · exact absurd (mayV_iff.1 hm d h0 h4) h
theorem mayV_yes {v : Int → Int} (h0 : 0 ≤ v 0 ∧ v 0 ≤ 1099511627776) (h1 : 0 ≤ v 1 ∧ v 1 ≤ 1099511627776) (h2 : 0 ≤ v 2 ∧ v 2 ≤ 1099511627776) (h3 : 0 ≤ v 3 ∧ v 3 ≤ 1099511627776) : mayV v = true := mayV_iff.2 (four h0 h1 h2 h3)
theorem rmay_a (v : Int → Int) : AFnP Tryz.prog 27 [vecE v] (.bool (mayV v)) := by
  refine afnp_in ty_ok Tryz.call27 Tryz.func27 rfl rfl (by decide +kernel) ?_
  (try conv=>whnf)<;>repeat'((first|exact sNo|refine sT ?_|refine sF ?_|((first|refine sD ?_ ?_|refine sE ?_ ?_|refine sN ?_ ?_|refine sG ?_ ?_)<;>intro ht<;>(first|(cases ht;done)|skip))|refine wr ?_|refine ix ?_|refine ati ?_|refine row ?_|refine app ?_|refine dr ?_|refine VBs.own ?_|fail)<;>(try conv=>whnf))
  refine VLp.mk ⟨[], [1], [4], fun k vs h => (vs = [i64 0] ∧ h = [.blk 0 [i64 (v 0), i64 (v 1), i64 (v 2), i64 (v 3)] 33] ∧ k = 4) ∨ (vs = [i64 1] ∧ h = [.blk 0 [i64 (v 0), i64 (v 1), i64 (v 2), i64 (v 3)] 33] ∧ (0 ≤ v 0 ∧ v 0 ≤ 1099511627776) ∧ k = 3) ∨ (vs = [i64 2] ∧ h = [.blk 0 [i64 (v 0), i64 (v 1), i64 (v 2), i64 (v 3)] 33] ∧ (0 ≤ v 0 ∧ v 0 ≤ 1099511627776) ∧ (0 ≤ v 1 ∧ v 1 ≤ 1099511627776) ∧ k = 2) ∨ (vs = [i64 3] ∧ h = [.blk 0 [i64 (v 0), i64 (v 1), i64 (v 2), i64 (v 3)] 33] ∧ (0 ≤ v 0 ∧ v 0 ≤ 1099511627776) ∧ (0 ≤ v 1 ∧ v 1 ≤ 1099511627776) ∧ (0 ≤ v 2 ∧ v 2 ≤ 1099511627776) ∧ k = 1) ∨ (vs = [i64 4] ∧ h = [.blk 0 [i64 (v 0), i64 (v 1), i64 (v 2), i64 (v 3)] 33] ∧ (0 ≤ v 0 ∧ v 0 ≤ 1099511627776) ∧ (0 ≤ v 1 ∧ v 1 ≤ 1099511627776) ∧ (0 ≤ v 2 ∧ v 2 ≤ 1099511627776) ∧ (0 ≤ v 3 ∧ v 3 ≤ 1099511627776) ∧ k = 0), 4, ?_⟩
  conv => whnf
  refine ⟨.inl ⟨rfl, rfl, rfl⟩, ?_⟩
  rintro k vs h (⟨rfl, rfl, rfl⟩ | ⟨rfl, rfl, h0, rfl⟩ | ⟨rfl, rfl, h0, h1, rfl⟩ | ⟨rfl, rfl, h0, h1, h2, rfl⟩ | ⟨rfl, rfl, h0, h1, h2, h3, rfl⟩)
  · by_cases h0 : 0 ≤ v 0 ∧ v 0 ≤ 1099511627776
    · (try conv=>whnf)<;>repeat'((first|exact sNo|refine sT ?_|refine sF ?_|((first|refine sD ?_ ?_|refine sE ?_ ?_|refine sN ?_ ?_|refine sG ?_ ?_)<;>intro ht<;>(first|(cases ht;done)|skip))|refine wr ?_|refine ix ?_|refine ati ?_|refine row ?_|refine app ?_|refine dr ?_|refine VBs.own ?_|fail)<;>(try conv=>whnf))
      all_goals exact VRd.mk rfl ⟨3, by omega, .inr (.inl ⟨rfl, rfl, h0, rfl⟩)⟩
    · (try conv=>whnf)<;>repeat'((first|exact sNo|refine sT ?_|refine sF ?_|((first|refine sD ?_ ?_|refine sE ?_ ?_|refine sN ?_ ?_|refine sG ?_ ?_)<;>intro ht<;>(first|(cases ht;done)|skip))|refine wr ?_|refine ix ?_|refine ati ?_|refine row ?_|refine app ?_|refine dr ?_|refine VBs.own ?_|fail)<;>(try conv=>whnf))
      all_goals exact congrArg AV.bool (mayV_no (v := v) (d := 0) (by omega) (by omega) h0).symm
  · by_cases h1 : 0 ≤ v 1 ∧ v 1 ≤ 1099511627776
    · (try conv=>whnf)<;>repeat'((first|exact sNo|refine sT ?_|refine sF ?_|((first|refine sD ?_ ?_|refine sE ?_ ?_|refine sN ?_ ?_|refine sG ?_ ?_)<;>intro ht<;>(first|(cases ht;done)|skip))|refine wr ?_|refine ix ?_|refine ati ?_|refine row ?_|refine app ?_|refine dr ?_|refine VBs.own ?_|fail)<;>(try conv=>whnf))
      all_goals exact VRd.mk rfl ⟨2, by omega, .inr (.inr (.inl ⟨rfl, rfl, h0, h1, rfl⟩))⟩
    · (try conv=>whnf)<;>repeat'((first|exact sNo|refine sT ?_|refine sF ?_|((first|refine sD ?_ ?_|refine sE ?_ ?_|refine sN ?_ ?_|refine sG ?_ ?_)<;>intro ht<;>(first|(cases ht;done)|skip))|refine wr ?_|refine ix ?_|refine ati ?_|refine row ?_|refine app ?_|refine dr ?_|refine VBs.own ?_|fail)<;>(try conv=>whnf))
      all_goals exact congrArg AV.bool (mayV_no (v := v) (d := 1) (by omega) (by omega) h1).symm
  · by_cases h2 : 0 ≤ v 2 ∧ v 2 ≤ 1099511627776
    · (try conv=>whnf)<;>repeat'((first|exact sNo|refine sT ?_|refine sF ?_|((first|refine sD ?_ ?_|refine sE ?_ ?_|refine sN ?_ ?_|refine sG ?_ ?_)<;>intro ht<;>(first|(cases ht;done)|skip))|refine wr ?_|refine ix ?_|refine ati ?_|refine row ?_|refine app ?_|refine dr ?_|refine VBs.own ?_|fail)<;>(try conv=>whnf))
      all_goals exact VRd.mk rfl ⟨1, by omega, .inr (.inr (.inr (.inl ⟨rfl, rfl, h0, h1, h2, rfl⟩)))⟩
    · (try conv=>whnf)<;>repeat'((first|exact sNo|refine sT ?_|refine sF ?_|((first|refine sD ?_ ?_|refine sE ?_ ?_|refine sN ?_ ?_|refine sG ?_ ?_)<;>intro ht<;>(first|(cases ht;done)|skip))|refine wr ?_|refine ix ?_|refine ati ?_|refine row ?_|refine app ?_|refine dr ?_|refine VBs.own ?_|fail)<;>(try conv=>whnf))
      all_goals exact congrArg AV.bool (mayV_no (v := v) (d := 2) (by omega) (by omega) h2).symm
  · by_cases h3 : 0 ≤ v 3 ∧ v 3 ≤ 1099511627776
    · (try conv=>whnf)<;>repeat'((first|exact sNo|refine sT ?_|refine sF ?_|((first|refine sD ?_ ?_|refine sE ?_ ?_|refine sN ?_ ?_|refine sG ?_ ?_)<;>intro ht<;>(first|(cases ht;done)|skip))|refine wr ?_|refine ix ?_|refine ati ?_|refine row ?_|refine app ?_|refine dr ?_|refine VBs.own ?_|fail)<;>(try conv=>whnf))
      all_goals exact VRd.mk rfl ⟨0, by omega, .inr (.inr (.inr (.inr (⟨rfl, rfl, h0, h1, h2, h3, rfl⟩))))⟩
    · (try conv=>whnf)<;>repeat'((first|exact sNo|refine sT ?_|refine sF ?_|((first|refine sD ?_ ?_|refine sE ?_ ?_|refine sN ?_ ?_|refine sG ?_ ?_)<;>intro ht<;>(first|(cases ht;done)|skip))|refine wr ?_|refine ix ?_|refine ati ?_|refine row ?_|refine app ?_|refine dr ?_|refine VBs.own ?_|fail)<;>(try conv=>whnf))
      all_goals exact congrArg AV.bool (mayV_no (v := v) (d := 3) (by omega) (by omega) h3).symm
  · (try conv=>whnf)<;>repeat'((first|exact sNo|refine sT ?_|refine sF ?_|((first|refine sD ?_ ?_|refine sE ?_ ?_|refine sN ?_ ?_|refine sG ?_ ?_)<;>intro ht<;>(first|(cases ht;done)|skip))|refine wr ?_|refine ix ?_|refine ati ?_|refine row ?_|refine app ?_|refine dr ?_|refine VBs.own ?_|fail)<;>(try conv=>whnf))
    exact congrArg AV.bool (mayV_yes h0 h1 h2 h3).symm
def fullE (v : Int → Int) : AV := if mayV v = true then .tup [lstE spE (fullC v), i64 0] else .tup [.lst 0 [], i64 1]
theorem upto_run {v : Int → Int} {P : Int → List (Int × Int)} (hP : P = fun d => run1 (v d)) (j : Nat) : (0 < v j → upto P (j + 1) = upto P j ++ [(((j : Int), (1 : Int), v j) : Spn)]) ∧ (¬ 0 < v j → upto P (j + 1) = upto P j) ∧ (upto P j).length ≤ j := by
  subst hP
  refine ⟨fun h => ?_, fun h => ?_, ?_⟩
  · simp [upto, run1, h, spn]
  · simp [upto, run1, h]
  · have := upto_len (p := fun d => run1 (v d)) (M := 1) (j := j) fun d _ => by show (run1 (v d)).length ≤ 1; unfold run1; split <;> simp
    omega
theorem cfull_a (v : Int → Int) : AFnP Tryz.prog 105 [vecE v] (fullE v) := by
  refine afnp_in ty_ok Tryz.call105 Tryz.func105 rfl rfl (by decide +kernel) ?_
  have hw : fullC v = upto (fun d => run1 (v d)) 4 := (upto4 _).symm
  unfold fullE
  rw [hw]
  generalize hP : (fun d => run1 (v d)) = P at *
  obtain ⟨y0, n0, l0⟩ := upto_run hP.symm 0
  obtain ⟨y1, n1, l1⟩ := upto_run hP.symm 1
  obtain ⟨y2, n2, l2⟩ := upto_run hP.symm 2
  obtain ⟨y3, n3, l3⟩ := upto_run hP.symm 3
  obtain ⟨y4, n4, l4⟩ := upto_run hP.symm 4
  clear hw hP
  have z0 : upto P 0 = [] := rfl
  rw [z0] at y0 n0
  generalize hU1 : upto P 1 = U1 at *
  generalize hU2 : upto P 2 = U2 at *
  generalize hU3 : upto P 3 = U3 at *
  generalize hU4 : upto P 4 = U4 at *
  try simp at y0
  try simp at n0
  try simp at l0
  try simp at y1
  try simp at n1
  try simp at l1
  try simp at y2
  try simp at n2
  try simp at l2
  try simp at y3
  try simp at n3
  try simp at l3
  try simp at l4
  (try conv=>whnf)<;>repeat'((first|exact sNo|refine sT ?_|refine sF ?_|((first|refine sD ?_ ?_|refine sE ?_ ?_|refine sN ?_ ?_|refine sG ?_ ?_)<;>intro ht<;>(first|(cases ht;done)|skip))|refine wr ?_|refine ix ?_|refine ati ?_|refine row ?_|refine app ?_|refine dr ?_|refine VBs.own ?_|fail)<;>(try conv=>whnf))
  refine VLp.mk ⟨[.slot 4 128 3], [], [4, 8], fun k vs h => (vs = [.own 0 0, i64 0] ∧ h = [.row 0 128 3 []] ∧ k = 4) ∨ (vs = [.own 0 U1.length, i64 1] ∧ h = [.row 0 128 3 (U1.map spE)] ∧ (0 ≤ v 0 ∧ v 0 ≤ 1099511627776) ∧ k = 3) ∨ (vs = [.own 0 U2.length, i64 2] ∧ h = [.row 0 128 3 (U2.map spE)] ∧ (0 ≤ v 0 ∧ v 0 ≤ 1099511627776) ∧ (0 ≤ v 1 ∧ v 1 ≤ 1099511627776) ∧ k = 2) ∨ (vs = [.own 0 U3.length, i64 3] ∧ h = [.row 0 128 3 (U3.map spE)] ∧ (0 ≤ v 0 ∧ v 0 ≤ 1099511627776) ∧ (0 ≤ v 1 ∧ v 1 ≤ 1099511627776) ∧ (0 ≤ v 2 ∧ v 2 ≤ 1099511627776) ∧ k = 1) ∨ (vs = [.own 0 U4.length, i64 4] ∧ h = [.row 0 128 3 (U4.map spE)] ∧ (0 ≤ v 0 ∧ v 0 ≤ 1099511627776) ∧ (0 ≤ v 1 ∧ v 1 ≤ 1099511627776) ∧ (0 ≤ v 2 ∧ v 2 ≤ 1099511627776) ∧ (0 ≤ v 3 ∧ v 3 ≤ 1099511627776) ∧ k = 0), 4, ?_⟩
  conv => whnf
  refine ⟨.inl ⟨rfl, rfl, rfl⟩, ?_⟩
  rintro k vs h (⟨rfl, rfl, rfl⟩ | ⟨rfl, rfl, h0, rfl⟩ | ⟨rfl, rfl, h0, h1, rfl⟩ | ⟨rfl, rfl, h0, h1, h2, rfl⟩ | ⟨rfl, rfl, h0, h1, h2, h3, rfl⟩)
  · by_cases h0 : 0 ≤ v 0 ∧ v 0 ≤ 1099511627776
    rotate_left
    · rw [mayV_no (v := v) (d := 0) (by omega) (by omega) h0]
      (try conv=>whnf)<;>repeat'((first|exact sNo|refine sT ?_|refine sF ?_|((first|refine sD ?_ ?_|refine sE ?_ ?_|refine sN ?_ ?_|refine sG ?_ ?_)<;>intro ht<;>(first|(cases ht;done)|skip))|refine wr ?_|refine ix ?_|refine ati ?_|refine row ?_|refine app ?_|refine dr ?_|refine VBs.own ?_|fail)<;>(try conv=>whnf))
      all_goals rfl
    by_cases p0 : 0 < v 0
    · have e := y0 p0
      (try conv=>whnf)<;>repeat'((first|exact sNo|refine sT ?_|refine sF ?_|((first|refine sD ?_ ?_|refine sE ?_ ?_|refine sN ?_ ?_|refine sG ?_ ?_)<;>intro ht<;>(first|(cases ht;done)|skip))|refine wr ?_|refine ix ?_|refine ati ?_|refine row ?_|refine app ?_|refine dr ?_|refine VBs.own ?_|fail)<;>(try conv=>whnf))
      all_goals exact VRd.mk rfl ⟨3, by omega, .inr (.inl ⟨by rw [e]; simp [i64], by rw [e]; simp [spE], h0, rfl⟩)⟩
    · have e := n0 (by omega)
      (try conv=>whnf)<;>repeat'((first|exact sNo|refine sT ?_|refine sF ?_|((first|refine sD ?_ ?_|refine sE ?_ ?_|refine sN ?_ ?_|refine sG ?_ ?_)<;>intro ht<;>(first|(cases ht;done)|skip))|refine wr ?_|refine ix ?_|refine ati ?_|refine row ?_|refine app ?_|refine dr ?_|refine VBs.own ?_|fail)<;>(try conv=>whnf))
      all_goals exact VRd.mk rfl ⟨3, by omega, .inr (.inl ⟨by rw [e] <;> rfl, by rw [e] <;> rfl, h0, rfl⟩)⟩
  · by_cases h1 : 0 ≤ v 1 ∧ v 1 ≤ 1099511627776
    rotate_left
    · rw [mayV_no (v := v) (d := 1) (by omega) (by omega) h1]
      (try conv=>whnf)<;>repeat'((first|exact sNo|refine sT ?_|refine sF ?_|((first|refine sD ?_ ?_|refine sE ?_ ?_|refine sN ?_ ?_|refine sG ?_ ?_)<;>intro ht<;>(first|(cases ht;done)|skip))|refine wr ?_|refine ix ?_|refine ati ?_|refine row ?_|refine app ?_|refine dr ?_|refine VBs.own ?_|fail)<;>(try conv=>whnf))
      all_goals rfl
    by_cases p1 : 0 < v 1
    · have e := y1 p1
      (try conv=>whnf)<;>repeat'((first|exact sNo|refine sT ?_|refine sF ?_|((first|refine sD ?_ ?_|refine sE ?_ ?_|refine sN ?_ ?_|refine sG ?_ ?_)<;>intro ht<;>(first|(cases ht;done)|skip))|refine wr ?_|refine ix ?_|refine ati ?_|refine row ?_|refine app ?_|refine dr ?_|refine VBs.own ?_|fail)<;>(try conv=>whnf))
      all_goals exact VRd.mk rfl ⟨2, by omega, .inr (.inr (.inl ⟨by rw [e]; simp [i64], by rw [e]; simp [spE], h0, h1, rfl⟩))⟩
    · have e := n1 (by omega)
      (try conv=>whnf)<;>repeat'((first|exact sNo|refine sT ?_|refine sF ?_|((first|refine sD ?_ ?_|refine sE ?_ ?_|refine sN ?_ ?_|refine sG ?_ ?_)<;>intro ht<;>(first|(cases ht;done)|skip))|refine wr ?_|refine ix ?_|refine ati ?_|refine row ?_|refine app ?_|refine dr ?_|refine VBs.own ?_|fail)<;>(try conv=>whnf))
      all_goals exact VRd.mk rfl ⟨2, by omega, .inr (.inr (.inl ⟨by rw [e] <;> rfl, by rw [e] <;> rfl, h0, h1, rfl⟩))⟩
  · by_cases h2 : 0 ≤ v 2 ∧ v 2 ≤ 1099511627776
    rotate_left
    · rw [mayV_no (v := v) (d := 2) (by omega) (by omega) h2]
      (try conv=>whnf)<;>repeat'((first|exact sNo|refine sT ?_|refine sF ?_|((first|refine sD ?_ ?_|refine sE ?_ ?_|refine sN ?_ ?_|refine sG ?_ ?_)<;>intro ht<;>(first|(cases ht;done)|skip))|refine wr ?_|refine ix ?_|refine ati ?_|refine row ?_|refine app ?_|refine dr ?_|refine VBs.own ?_|fail)<;>(try conv=>whnf))
      all_goals rfl
    by_cases p2 : 0 < v 2
    · have e := y2 p2
      (try conv=>whnf)<;>repeat'((first|exact sNo|refine sT ?_|refine sF ?_|((first|refine sD ?_ ?_|refine sE ?_ ?_|refine sN ?_ ?_|refine sG ?_ ?_)<;>intro ht<;>(first|(cases ht;done)|skip))|refine wr ?_|refine ix ?_|refine ati ?_|refine row ?_|refine app ?_|refine dr ?_|refine VBs.own ?_|fail)<;>(try conv=>whnf))
      all_goals exact VRd.mk rfl ⟨1, by omega, .inr (.inr (.inr (.inl ⟨by rw [e]; simp [i64], by rw [e]; simp [spE], h0, h1, h2, rfl⟩)))⟩
    · have e := n2 (by omega)
      (try conv=>whnf)<;>repeat'((first|exact sNo|refine sT ?_|refine sF ?_|((first|refine sD ?_ ?_|refine sE ?_ ?_|refine sN ?_ ?_|refine sG ?_ ?_)<;>intro ht<;>(first|(cases ht;done)|skip))|refine wr ?_|refine ix ?_|refine ati ?_|refine row ?_|refine app ?_|refine dr ?_|refine VBs.own ?_|fail)<;>(try conv=>whnf))
      all_goals exact VRd.mk rfl ⟨1, by omega, .inr (.inr (.inr (.inl ⟨by rw [e] <;> rfl, by rw [e] <;> rfl, h0, h1, h2, rfl⟩)))⟩
  · by_cases h3 : 0 ≤ v 3 ∧ v 3 ≤ 1099511627776
    rotate_left
    · rw [mayV_no (v := v) (d := 3) (by omega) (by omega) h3]
      (try conv=>whnf)<;>repeat'((first|exact sNo|refine sT ?_|refine sF ?_|((first|refine sD ?_ ?_|refine sE ?_ ?_|refine sN ?_ ?_|refine sG ?_ ?_)<;>intro ht<;>(first|(cases ht;done)|skip))|refine wr ?_|refine ix ?_|refine ati ?_|refine row ?_|refine app ?_|refine dr ?_|refine VBs.own ?_|fail)<;>(try conv=>whnf))
      all_goals rfl
    by_cases p3 : 0 < v 3
    · have e := y3 p3
      (try conv=>whnf)<;>repeat'((first|exact sNo|refine sT ?_|refine sF ?_|((first|refine sD ?_ ?_|refine sE ?_ ?_|refine sN ?_ ?_|refine sG ?_ ?_)<;>intro ht<;>(first|(cases ht;done)|skip))|refine wr ?_|refine ix ?_|refine ati ?_|refine row ?_|refine app ?_|refine dr ?_|refine VBs.own ?_|fail)<;>(try conv=>whnf))
      all_goals exact VRd.mk rfl ⟨0, by omega, .inr (.inr (.inr (.inr (⟨by rw [e]; simp [i64], by rw [e]; simp [spE], h0, h1, h2, h3, rfl⟩))))⟩
    · have e := n3 (by omega)
      (try conv=>whnf)<;>repeat'((first|exact sNo|refine sT ?_|refine sF ?_|((first|refine sD ?_ ?_|refine sE ?_ ?_|refine sN ?_ ?_|refine sG ?_ ?_)<;>intro ht<;>(first|(cases ht;done)|skip))|refine wr ?_|refine ix ?_|refine ati ?_|refine row ?_|refine app ?_|refine dr ?_|refine VBs.own ?_|fail)<;>(try conv=>whnf))
      all_goals exact VRd.mk rfl ⟨0, by omega, .inr (.inr (.inr (.inr (⟨by rw [e] <;> rfl, by rw [e] <;> rfl, h0, h1, h2, h3, rfl⟩))))⟩
  · rw [mayV_yes h0 h1 h2 h3]
    (try conv=>whnf)<;>repeat'((first|exact sNo|refine sT ?_|refine sF ?_|((first|refine sD ?_ ?_|refine sE ?_ ?_|refine sN ?_ ?_|refine sG ?_ ?_)<;>intro ht<;>(first|(cases ht;done)|skip))|refine wr ?_|refine ix ?_|refine ati ?_|refine row ?_|refine app ?_|refine dr ?_|refine VBs.own ?_|fail)<;>(try conv=>whnf))
    all_goals rfl
theorem rfull_a (v : Int → Int) : AFnP Tryz.prog 72 [vecE v] (lstE spE (fullC v)) := by
  refine afnp_in ty_ok Tryz.call72 Tryz.func72 rfl rfl (by decide +kernel) ?_
  have hw : fullC v = upto (fun d => run1 (v d)) 4 := (upto4 _).symm
  rw [hw]
  generalize hP : (fun d => run1 (v d)) = P at *
  obtain ⟨y0, n0, l0⟩ := upto_run hP.symm 0
  obtain ⟨y1, n1, l1⟩ := upto_run hP.symm 1
  obtain ⟨y2, n2, l2⟩ := upto_run hP.symm 2
  obtain ⟨y3, n3, l3⟩ := upto_run hP.symm 3
  obtain ⟨y4, n4, l4⟩ := upto_run hP.symm 4
  clear hw hP
  have z0 : upto P 0 = [] := rfl
  rw [z0] at y0 n0
  generalize hU1 : upto P 1 = U1 at *
  generalize hU2 : upto P 2 = U2 at *
  generalize hU3 : upto P 3 = U3 at *
  generalize hU4 : upto P 4 = U4 at *
  try simp at y0
  try simp at n0
  try simp at l0
  try simp at y1
  try simp at n1
  try simp at l1
  try simp at y2
  try simp at n2
  try simp at l2
  try simp at y3
  try simp at n3
  try simp at l3
  try simp at l4
  (try conv=>whnf)<;>repeat'((first|exact sNo|refine sT ?_|refine sF ?_|((first|refine sD ?_ ?_|refine sE ?_ ?_|refine sN ?_ ?_|refine sG ?_ ?_)<;>intro ht<;>(first|(cases ht;done)|skip))|refine wr ?_|refine ix ?_|refine ati ?_|refine row ?_|refine app ?_|refine dr ?_|refine VBs.own ?_|fail)<;>(try conv=>whnf))
  refine VLp.mk ⟨[.slot 3 128 3], [1], [3, 5], fun k vs h => (vs = [.own 1 0, i64 0] ∧ h = [.blk 0 [i64 (v 0), i64 (v 1), i64 (v 2), i64 (v 3)] 33, .row 1 128 3 []] ∧ k = 4) ∨ (vs = [.own 1 U1.length, i64 1] ∧ h = [.blk 0 [i64 (v 0), i64 (v 1), i64 (v 2), i64 (v 3)] 33, .row 1 128 3 (U1.map spE)] ∧ k = 3) ∨ (vs = [.own 1 U2.length, i64 2] ∧ h = [.blk 0 [i64 (v 0), i64 (v 1), i64 (v 2), i64 (v 3)] 33, .row 1 128 3 (U2.map spE)] ∧ k = 2) ∨ (vs = [.own 1 U3.length, i64 3] ∧ h = [.blk 0 [i64 (v 0), i64 (v 1), i64 (v 2), i64 (v 3)] 33, .row 1 128 3 (U3.map spE)] ∧ k = 1) ∨ (vs = [.own 1 U4.length, i64 4] ∧ h = [.blk 0 [i64 (v 0), i64 (v 1), i64 (v 2), i64 (v 3)] 33, .row 1 128 3 (U4.map spE)] ∧ k = 0), 4, ?_⟩
  conv => whnf
  refine ⟨.inl ⟨rfl, rfl, rfl⟩, ?_⟩
  rintro k vs h (⟨rfl, rfl, rfl⟩ | ⟨rfl, rfl, rfl⟩ | ⟨rfl, rfl, rfl⟩ | ⟨rfl, rfl, rfl⟩ | ⟨rfl, rfl, rfl⟩)
  · skip
    by_cases p0 : 0 < v 0
    · have e := y0 p0
      (try conv=>whnf)<;>repeat'((first|exact sNo|refine sT ?_|refine sF ?_|((first|refine sD ?_ ?_|refine sE ?_ ?_|refine sN ?_ ?_|refine sG ?_ ?_)<;>intro ht<;>(first|(cases ht;done)|skip))|refine wr ?_|refine ix ?_|refine ati ?_|refine row ?_|refine app ?_|refine dr ?_|refine VBs.own ?_|fail)<;>(try conv=>whnf))
      all_goals exact VRd.mk rfl ⟨3, by omega, .inr (.inl ⟨by rw [e]; simp [i64], by rw [e]; simp [spE], rfl⟩)⟩
    · have e := n0 (by omega)
      (try conv=>whnf)<;>repeat'((first|exact sNo|refine sT ?_|refine sF ?_|((first|refine sD ?_ ?_|refine sE ?_ ?_|refine sN ?_ ?_|refine sG ?_ ?_)<;>intro ht<;>(first|(cases ht;done)|skip))|refine wr ?_|refine ix ?_|refine ati ?_|refine row ?_|refine app ?_|refine dr ?_|refine VBs.own ?_|fail)<;>(try conv=>whnf))
      all_goals exact VRd.mk rfl ⟨3, by omega, .inr (.inl ⟨by rw [e] <;> rfl, by rw [e] <;> rfl, rfl⟩)⟩
  · skip
    by_cases p1 : 0 < v 1
    · have e := y1 p1
      (try conv=>whnf)<;>repeat'((first|exact sNo|refine sT ?_|refine sF ?_|((first|refine sD ?_ ?_|refine sE ?_ ?_|refine sN ?_ ?_|refine sG ?_ ?_)<;>intro ht<;>(first|(cases ht;done)|skip))|refine wr ?_|refine ix ?_|refine ati ?_|refine row ?_|refine app ?_|refine dr ?_|refine VBs.own ?_|fail)<;>(try conv=>whnf))
      all_goals exact VRd.mk rfl ⟨2, by omega, .inr (.inr (.inl ⟨by rw [e]; simp [i64], by rw [e]; simp [spE], rfl⟩))⟩
    · have e := n1 (by omega)
      (try conv=>whnf)<;>repeat'((first|exact sNo|refine sT ?_|refine sF ?_|((first|refine sD ?_ ?_|refine sE ?_ ?_|refine sN ?_ ?_|refine sG ?_ ?_)<;>intro ht<;>(first|(cases ht;done)|skip))|refine wr ?_|refine ix ?_|refine ati ?_|refine row ?_|refine app ?_|refine dr ?_|refine VBs.own ?_|fail)<;>(try conv=>whnf))
      all_goals exact VRd.mk rfl ⟨2, by omega, .inr (.inr (.inl ⟨by rw [e] <;> rfl, by rw [e] <;> rfl, rfl⟩))⟩
  · skip
    by_cases p2 : 0 < v 2
    · have e := y2 p2
      (try conv=>whnf)<;>repeat'((first|exact sNo|refine sT ?_|refine sF ?_|((first|refine sD ?_ ?_|refine sE ?_ ?_|refine sN ?_ ?_|refine sG ?_ ?_)<;>intro ht<;>(first|(cases ht;done)|skip))|refine wr ?_|refine ix ?_|refine ati ?_|refine row ?_|refine app ?_|refine dr ?_|refine VBs.own ?_|fail)<;>(try conv=>whnf))
      all_goals exact VRd.mk rfl ⟨1, by omega, .inr (.inr (.inr (.inl ⟨by rw [e]; simp [i64], by rw [e]; simp [spE], rfl⟩)))⟩
    · have e := n2 (by omega)
      (try conv=>whnf)<;>repeat'((first|exact sNo|refine sT ?_|refine sF ?_|((first|refine sD ?_ ?_|refine sE ?_ ?_|refine sN ?_ ?_|refine sG ?_ ?_)<;>intro ht<;>(first|(cases ht;done)|skip))|refine wr ?_|refine ix ?_|refine ati ?_|refine row ?_|refine app ?_|refine dr ?_|refine VBs.own ?_|fail)<;>(try conv=>whnf))
      all_goals exact VRd.mk rfl ⟨1, by omega, .inr (.inr (.inr (.inl ⟨by rw [e] <;> rfl, by rw [e] <;> rfl, rfl⟩)))⟩
  · skip
    by_cases p3 : 0 < v 3
    · have e := y3 p3
      (try conv=>whnf)<;>repeat'((first|exact sNo|refine sT ?_|refine sF ?_|((first|refine sD ?_ ?_|refine sE ?_ ?_|refine sN ?_ ?_|refine sG ?_ ?_)<;>intro ht<;>(first|(cases ht;done)|skip))|refine wr ?_|refine ix ?_|refine ati ?_|refine row ?_|refine app ?_|refine dr ?_|refine VBs.own ?_|fail)<;>(try conv=>whnf))
      all_goals exact VRd.mk rfl ⟨0, by omega, .inr (.inr (.inr (.inr (⟨by rw [e]; simp [i64], by rw [e]; simp [spE], rfl⟩))))⟩
    · have e := n3 (by omega)
      (try conv=>whnf)<;>repeat'((first|exact sNo|refine sT ?_|refine sF ?_|((first|refine sD ?_ ?_|refine sE ?_ ?_|refine sN ?_ ?_|refine sG ?_ ?_)<;>intro ht<;>(first|(cases ht;done)|skip))|refine wr ?_|refine ix ?_|refine ati ?_|refine row ?_|refine app ?_|refine dr ?_|refine VBs.own ?_|fail)<;>(try conv=>whnf))
      all_goals exact VRd.mk rfl ⟨0, by omega, .inr (.inr (.inr (.inr (⟨by rw [e] <;> rfl, by rw [e] <;> rfl, rfl⟩))))⟩
  · (try conv=>whnf)<;>repeat'((first|exact sNo|refine sT ?_|refine sF ?_|((first|refine sD ?_ ?_|refine sE ?_ ?_|refine sN ?_ ?_|refine sG ?_ ?_)<;>intro ht<;>(first|(cases ht;done)|skip))|refine wr ?_|refine ix ?_|refine ati ?_|refine row ?_|refine app ?_|refine dr ?_|refine VBs.own ?_|fail)<;>(try conv=>whnf))
theorem atMost_no {v w : Int → Int} {d : Int} (h0 : 0 ≤ d) (h4 : d < 4) (h : ¬ v d ≤ w d) : atMost v w = false := by
  cases hm : atMost v w
  · rfl
  · exact absurd (atMost_iff.1 hm d h0 h4) h
theorem ratmost_a (v w : Int → Int) : AFnP Tryz.prog 31 [vecE v, vecE w] (.bool (atMost v w)) := by
  refine afnp_in ty_ok Tryz.call31 Tryz.func31 rfl rfl (by decide +kernel) ?_
  (try conv=>whnf)<;>repeat'((first|exact sNo|refine sT ?_|refine sF ?_|((first|refine sD ?_ ?_|refine sE ?_ ?_|refine sN ?_ ?_|refine sG ?_ ?_)<;>intro ht<;>(first|(cases ht;done)|skip))|refine wr ?_|refine ix ?_|refine ati ?_|refine row ?_|refine app ?_|refine dr ?_|refine VBs.own ?_|fail)<;>(try conv=>whnf))
  refine VLp.mk ⟨[], [2, 3], [6], fun k vs h => (vs = [i64 0] ∧ h = [.blk 0 [i64 (v 0), i64 (v 1), i64 (v 2), i64 (v 3)] 33, .blk 1 [i64 (w 0), i64 (w 1), i64 (w 2), i64 (w 3)] 33] ∧ k = 4) ∨ (vs = [i64 1] ∧ h = [.blk 0 [i64 (v 0), i64 (v 1), i64 (v 2), i64 (v 3)] 33, .blk 1 [i64 (w 0), i64 (w 1), i64 (w 2), i64 (w 3)] 33] ∧ v 0 ≤ w 0 ∧ k = 3) ∨ (vs = [i64 2] ∧ h = [.blk 0 [i64 (v 0), i64 (v 1), i64 (v 2), i64 (v 3)] 33, .blk 1 [i64 (w 0), i64 (w 1), i64 (w 2), i64 (w 3)] 33] ∧ v 0 ≤ w 0 ∧ v 1 ≤ w 1 ∧ k = 2) ∨ (vs = [i64 3] ∧ h = [.blk 0 [i64 (v 0), i64 (v 1), i64 (v 2), i64 (v 3)] 33, .blk 1 [i64 (w 0), i64 (w 1), i64 (w 2), i64 (w 3)] 33] ∧ v 0 ≤ w 0 ∧ v 1 ≤ w 1 ∧ v 2 ≤ w 2 ∧ k = 1) ∨ (vs = [i64 4] ∧ h = [.blk 0 [i64 (v 0), i64 (v 1), i64 (v 2), i64 (v 3)] 33, .blk 1 [i64 (w 0), i64 (w 1), i64 (w 2), i64 (w 3)] 33] ∧ v 0 ≤ w 0 ∧ v 1 ≤ w 1 ∧ v 2 ≤ w 2 ∧ v 3 ≤ w 3 ∧ k = 0), 4, ?_⟩
  conv => whnf
  refine ⟨.inl ⟨rfl, rfl, rfl⟩, ?_⟩
  rintro k vs h (⟨rfl, rfl, rfl⟩ | ⟨rfl, rfl, h0, rfl⟩ | ⟨rfl, rfl, h0, h1, rfl⟩ | ⟨rfl, rfl, h0, h1, h2, rfl⟩ | ⟨rfl, rfl, h0, h1, h2, h3, rfl⟩)
  · by_cases h0 : v 0 ≤ w 0
    · (try conv=>whnf)<;>repeat'((first|exact sNo|refine sT ?_|refine sF ?_|((first|refine sD ?_ ?_|refine sE ?_ ?_|refine sN ?_ ?_|refine sG ?_ ?_)<;>intro ht<;>(first|(cases ht;done)|skip))|refine wr ?_|refine ix ?_|refine ati ?_|refine row ?_|refine app ?_|refine dr ?_|refine VBs.own ?_|fail)<;>(try conv=>whnf))
      all_goals exact VRd.mk rfl ⟨3, by omega, .inr (.inl ⟨rfl, rfl, h0, rfl⟩)⟩
    · (try conv=>whnf)<;>repeat'((first|exact sNo|refine sT ?_|refine sF ?_|((first|refine sD ?_ ?_|refine sE ?_ ?_|refine sN ?_ ?_|refine sG ?_ ?_)<;>intro ht<;>(first|(cases ht;done)|skip))|refine wr ?_|refine ix ?_|refine ati ?_|refine row ?_|refine app ?_|refine dr ?_|refine VBs.own ?_|fail)<;>(try conv=>whnf))
      all_goals exact congrArg AV.bool (atMost_no (v := v) (w := w) (d := 0) (by omega) (by omega) h0).symm
  · by_cases h1 : v 1 ≤ w 1
    · (try conv=>whnf)<;>repeat'((first|exact sNo|refine sT ?_|refine sF ?_|((first|refine sD ?_ ?_|refine sE ?_ ?_|refine sN ?_ ?_|refine sG ?_ ?_)<;>intro ht<;>(first|(cases ht;done)|skip))|refine wr ?_|refine ix ?_|refine ati ?_|refine row ?_|refine app ?_|refine dr ?_|refine VBs.own ?_|fail)<;>(try conv=>whnf))
      all_goals exact VRd.mk rfl ⟨2, by omega, .inr (.inr (.inl ⟨rfl, rfl, h0, h1, rfl⟩))⟩
    · (try conv=>whnf)<;>repeat'((first|exact sNo|refine sT ?_|refine sF ?_|((first|refine sD ?_ ?_|refine sE ?_ ?_|refine sN ?_ ?_|refine sG ?_ ?_)<;>intro ht<;>(first|(cases ht;done)|skip))|refine wr ?_|refine ix ?_|refine ati ?_|refine row ?_|refine app ?_|refine dr ?_|refine VBs.own ?_|fail)<;>(try conv=>whnf))
      all_goals exact congrArg AV.bool (atMost_no (v := v) (w := w) (d := 1) (by omega) (by omega) h1).symm
  · by_cases h2 : v 2 ≤ w 2
    · (try conv=>whnf)<;>repeat'((first|exact sNo|refine sT ?_|refine sF ?_|((first|refine sD ?_ ?_|refine sE ?_ ?_|refine sN ?_ ?_|refine sG ?_ ?_)<;>intro ht<;>(first|(cases ht;done)|skip))|refine wr ?_|refine ix ?_|refine ati ?_|refine row ?_|refine app ?_|refine dr ?_|refine VBs.own ?_|fail)<;>(try conv=>whnf))
      all_goals exact VRd.mk rfl ⟨1, by omega, .inr (.inr (.inr (.inl ⟨rfl, rfl, h0, h1, h2, rfl⟩)))⟩
    · (try conv=>whnf)<;>repeat'((first|exact sNo|refine sT ?_|refine sF ?_|((first|refine sD ?_ ?_|refine sE ?_ ?_|refine sN ?_ ?_|refine sG ?_ ?_)<;>intro ht<;>(first|(cases ht;done)|skip))|refine wr ?_|refine ix ?_|refine ati ?_|refine row ?_|refine app ?_|refine dr ?_|refine VBs.own ?_|fail)<;>(try conv=>whnf))
      all_goals exact congrArg AV.bool (atMost_no (v := v) (w := w) (d := 2) (by omega) (by omega) h2).symm
  · by_cases h3 : v 3 ≤ w 3
    · (try conv=>whnf)<;>repeat'((first|exact sNo|refine sT ?_|refine sF ?_|((first|refine sD ?_ ?_|refine sE ?_ ?_|refine sN ?_ ?_|refine sG ?_ ?_)<;>intro ht<;>(first|(cases ht;done)|skip))|refine wr ?_|refine ix ?_|refine ati ?_|refine row ?_|refine app ?_|refine dr ?_|refine VBs.own ?_|fail)<;>(try conv=>whnf))
      all_goals exact VRd.mk rfl ⟨0, by omega, .inr (.inr (.inr (.inr (⟨rfl, rfl, h0, h1, h2, h3, rfl⟩))))⟩
    · (try conv=>whnf)<;>repeat'((first|exact sNo|refine sT ?_|refine sF ?_|((first|refine sD ?_ ?_|refine sE ?_ ?_|refine sN ?_ ?_|refine sG ?_ ?_)<;>intro ht<;>(first|(cases ht;done)|skip))|refine wr ?_|refine ix ?_|refine ati ?_|refine row ?_|refine app ?_|refine dr ?_|refine VBs.own ?_|fail)<;>(try conv=>whnf))
      all_goals exact congrArg AV.bool (atMost_no (v := v) (w := w) (d := 3) (by omega) (by omega) h3).symm
  · (try conv=>whnf)<;>repeat'((first|exact sNo|refine sT ?_|refine sF ?_|((first|refine sD ?_ ?_|refine sE ?_ ?_|refine sN ?_ ?_|refine sG ?_ ?_)<;>intro ht<;>(first|(cases ht;done)|skip))|refine wr ?_|refine ix ?_|refine ati ?_|refine row ?_|refine app ?_|refine dr ?_|refine VBs.own ?_|fail)<;>(try conv=>whnf))
    exact congrArg AV.bool (atMost_iff.2 (four h0 h1 h2 h3)).symm
theorem rraised_a (v w : Int → Int) : AFnP Tryz.prog 40 [vecE v, vecE w] (vecE (mxV v w)) := by
  refine afnp_in ty_ok Tryz.call40 Tryz.func40 rfl rfl (by decide +kernel) ?_
  (try conv=>whnf)<;>repeat'((first|exact sNo|refine sT ?_|refine sF ?_|((first|refine sD ?_ ?_|refine sE ?_ ?_|refine sN ?_ ?_|refine sG ?_ ?_)<;>intro ht<;>(first|(cases ht;done)|skip))|refine wr ?_|refine ix ?_|refine ati ?_|refine row ?_|refine app ?_|refine dr ?_|refine VBs.own ?_|fail)<;>(try conv=>whnf))
  refine VLp.mk ⟨[], [2, 3, 4], [6], fun k vs h => (vs = [i64 0] ∧ h = [.blk 0 [i64 (v 0), i64 (v 1), i64 (v 2), i64 (v 3)] 33, .blk 1 [i64 (w 0), i64 (w 1), i64 (w 2), i64 (w 3)] 33, .blk 2 [i64 0, i64 0, i64 0, i64 0] 33] ∧ k = 4) ∨ (vs = [i64 1] ∧ h = [.blk 0 [i64 (mxV v w 0), i64 (v 1), i64 (v 2), i64 (v 3)] 33, .blk 1 [i64 (w 0), i64 (w 1), i64 (w 2), i64 (w 3)] 33, .blk 2 [i64 0, i64 0, i64 0, i64 0] 33] ∧ k = 3) ∨ (vs = [i64 2] ∧ h = [.blk 0 [i64 (mxV v w 0), i64 (mxV v w 1), i64 (v 2), i64 (v 3)] 33, .blk 1 [i64 (w 0), i64 (w 1), i64 (w 2), i64 (w 3)] 33, .blk 2 [i64 0, i64 0, i64 0, i64 0] 33] ∧ k = 2) ∨ (vs = [i64 3] ∧ h = [.blk 0 [i64 (mxV v w 0), i64 (mxV v w 1), i64 (mxV v w 2), i64 (v 3)] 33, .blk 1 [i64 (w 0), i64 (w 1), i64 (w 2), i64 (w 3)] 33, .blk 2 [i64 0, i64 0, i64 0, i64 0] 33] ∧ k = 1) ∨ (vs = [i64 4] ∧ h = [.blk 0 [i64 (mxV v w 0), i64 (mxV v w 1), i64 (mxV v w 2), i64 (mxV v w 3)] 33, .blk 1 [i64 (w 0), i64 (w 1), i64 (w 2), i64 (w 3)] 33, .blk 2 [i64 0, i64 0, i64 0, i64 0] 33] ∧ k = 0), 4, ?_⟩
  conv => whnf
  refine ⟨.inl ⟨rfl, rfl, rfl⟩, ?_⟩
  rintro k vs h (⟨rfl, rfl, rfl⟩ | ⟨rfl, rfl, rfl⟩ | ⟨rfl, rfl, rfl⟩ | ⟨rfl, rfl, rfl⟩ | ⟨rfl, rfl, rfl⟩)
  · (try conv=>whnf)<;>repeat'((first|exact sNo|refine sT ?_|refine sF ?_|((first|refine sD ?_ ?_|refine sE ?_ ?_|refine sN ?_ ?_|refine sG ?_ ?_)<;>intro ht<;>(first|(cases ht;done)|skip))|refine wr ?_|refine ix ?_|refine ati ?_|refine row ?_|refine app ?_|refine dr ?_|refine VBs.own ?_|fail)<;>(try conv=>whnf))
    all_goals exact VRd.mk rfl ⟨3, by omega, .inr (.inl ⟨rfl, rfl, rfl⟩)⟩
  · (try conv=>whnf)<;>repeat'((first|exact sNo|refine sT ?_|refine sF ?_|((first|refine sD ?_ ?_|refine sE ?_ ?_|refine sN ?_ ?_|refine sG ?_ ?_)<;>intro ht<;>(first|(cases ht;done)|skip))|refine wr ?_|refine ix ?_|refine ati ?_|refine row ?_|refine app ?_|refine dr ?_|refine VBs.own ?_|fail)<;>(try conv=>whnf))
    all_goals exact VRd.mk rfl ⟨2, by omega, .inr (.inr (.inl ⟨rfl, rfl, rfl⟩))⟩
  · (try conv=>whnf)<;>repeat'((first|exact sNo|refine sT ?_|refine sF ?_|((first|refine sD ?_ ?_|refine sE ?_ ?_|refine sN ?_ ?_|refine sG ?_ ?_)<;>intro ht<;>(first|(cases ht;done)|skip))|refine wr ?_|refine ix ?_|refine ati ?_|refine row ?_|refine app ?_|refine dr ?_|refine VBs.own ?_|fail)<;>(try conv=>whnf))
    all_goals exact VRd.mk rfl ⟨1, by omega, .inr (.inr (.inr (.inl ⟨rfl, rfl, rfl⟩)))⟩
  · (try conv=>whnf)<;>repeat'((first|exact sNo|refine sT ?_|refine sF ?_|((first|refine sD ?_ ?_|refine sE ?_ ?_|refine sN ?_ ?_|refine sG ?_ ?_)<;>intro ht<;>(first|(cases ht;done)|skip))|refine wr ?_|refine ix ?_|refine ati ?_|refine row ?_|refine app ?_|refine dr ?_|refine VBs.own ?_|fail)<;>(try conv=>whnf))
    all_goals exact VRd.mk rfl ⟨0, by omega, .inr (.inr (.inr (.inr (⟨rfl, rfl, rfl⟩))))⟩
  · (try conv=>whnf)<;>repeat'((first|exact sNo|refine sT ?_|refine sF ?_|((first|refine sD ?_ ?_|refine sE ?_ ?_|refine sN ?_ ?_|refine sG ?_ ?_)<;>intro ht<;>(first|(cases ht;done)|skip))|refine wr ?_|refine ix ?_|refine ati ?_|refine row ?_|refine app ?_|refine dr ?_|refine VBs.own ?_|fail)<;>(try conv=>whnf))
    all_goals rfl
end Go.Proofs.YtlghgdgpbnlpmaaGreat
/- What is proved: what Solid and Has of package context answer. Conditions: none. -/
namespace Go.Proofs.YtlghgdgpbnlpmaaGreat
open Go.RowKit
set_option linter.unusedVariables false
set_option linter.unusedSimpArgs false
set_option maxRecDepth 100000
set_option maxHeartbeats 16000000
theorem equal_a (a b : List Spn) (ha : a.length ≤ 1000000) (hb : b.length ≤ 1000000) : AFnP Tryz.prog 128 [lstE spE a, lstE spE b] (.bool (decide (a = b))) := by
  refine afnp_in ty_ok Tryz.call128 Tryz.func128 rfl rfl (by decide +kernel) ?_
  by_cases hl : a.length = b.length
  · (try conv=>whnf)<;>repeat'((first|exact sNo|refine sT ?_|refine sF ?_|((first|refine sD ?_ ?_|refine sE ?_ ?_|refine sN ?_ ?_|refine sG ?_ ?_)<;>intro ht<;>(first|(cases ht;done)|skip))|refine wr ?_|refine ix ?_|refine ati ?_|refine row ?_|refine app ?_|refine dr ?_|refine VBs.own ?_|fail)<;>(try conv=>whnf))
    refine VLp.mk ⟨[], [], [13], fun k vs h => ∃ i : Nat, vs = [i64 i] ∧ h = [] ∧ i ≤ a.length ∧ k = a.length - i ∧ a.take i = b.take i, a.length, ?_⟩
    conv => whnf
    refine ⟨⟨0, rfl, rfl, by omega, by omega, rfl⟩, ?_⟩
    rintro k vs h ⟨i, rfl, rfl, hi, rfl, hg⟩
    by_cases hin : i < a.length
    · have hin2 : i < b.length := by omega
      have hne : ∀ (h : a[i].1 = b[i].1 ∧ a[i].2.1 = b[i].2.1 ∧ a[i].2.2 = b[i].2.2), a[i] = b[i] := fun h => Prod.ext h.1 (Prod.ext h.2.1 h.2.2)
      (try conv=>whnf)<;>repeat'((first|exact sNo|refine sT ?_|refine sF ?_|((first|refine sD ?_ ?_|refine sE ?_ ?_|refine sN ?_ ?_|refine sG ?_ ?_)<;>intro ht<;>(first|(cases ht;done)|skip))|refine wr ?_|refine ix ?_|refine ati ?_|refine row ?_|refine app ?_|refine dr ?_|refine VBs.own ?_|fail)<;>(try conv=>whnf))
      · have he : a[i] = b[i] := hne (by simpa using ht)
        exact VRd.mk rfl ⟨a.length - (i + 1), by omega, i + 1, rfl, rfl, by omega, rfl, eq_takeK hin hin2 hg he⟩
      · refine congrArg AV.bool (decide_eq_false ?_).symm
        rintro rfl
        simp at ht
    · (try conv=>whnf)<;>repeat'((first|exact sNo|refine sT ?_|refine sF ?_|((first|refine sD ?_ ?_|refine sE ?_ ?_|refine sN ?_ ?_|refine sG ?_ ?_)<;>intro ht<;>(first|(cases ht;done)|skip))|refine wr ?_|refine ix ?_|refine ati ?_|refine row ?_|refine app ?_|refine dr ?_|refine VBs.own ?_|fail)<;>(try conv=>whnf))
      rw [List.take_of_length_le (by omega), List.take_of_length_le (by omega)] at hg
      subst hg
      simp
  · have hne : a ≠ b := fun e => hl (by rw [e])
    rw [decide_eq_false hne]
    (try conv=>whnf)<;>repeat'((first|exact sNo|refine sT ?_|refine sF ?_|((first|refine sD ?_ ?_|refine sE ?_ ?_|refine sN ?_ ?_|refine sG ?_ ?_)<;>intro ht<;>(first|(cases ht;done)|skip))|refine wr ?_|refine ix ?_|refine ati ?_|refine row ?_|refine app ?_|refine dr ?_|refine VBs.own ?_|fail)<;>(try conv=>whnf))
theorem rsameC_p {a b : List Spn} (ha : a.length ≤ 1000000) (hb : b.length ≤ 1000000) {t : Bool} (ht : decide (a = b) = t) : AFnP Tryz.prog 95 [lstE spE a, lstE spE b] (.bool t) := by subst ht; exact rsameC_a a b ha hb
theorem rrightC_p {c : List Spn} (hn : c.length ≤ 1000000) {t : Bool} (ht : rightC c = t) : AFnP Tryz.prog 97 [lstE spE c] (.bool t) := by subst ht; exact rrightC_a c hn
theorem csame_p {a b : List Spn} (ha : a.length ≤ 1000000) (hb : b.length ≤ 1000000) {t : Bool} (ht : (rightC a && (rightC b && decide (a = b))) = t) : AFnP Tryz.prog 104 [lstE spE a, lstE spE b] (.bool t) := by
  subst ht
  refine afnp_in ty_ok Tryz.call104 Tryz.func104 rfl rfl (by decide +kernel) ?_
  have e := equal_a a b ha hb
  cases h1 : rightC a
  · (try conv=>whnf)<;>repeat'((first|exact sNo|refine sT ?_|refine sF ?_|((first|refine sD ?_ ?_|refine sE ?_ ?_|refine sN ?_ ?_|refine sG ?_ ?_)<;>intro ht<;>(first|(cases ht;done)|skip))|refine wr ?_|refine ix ?_|refine ati ?_|refine row ?_|refine app ?_|refine dr ?_|refine VBs.own ?_|refine cf (cright_p h1 ha) ?_|refine cg (cright_p h1 ha) ?_|refine cz (cright_p h1 ha) ?_|fail)<;>(try conv=>whnf))
    all_goals rfl
  · cases h2 : rightC b
    · (try conv=>whnf)<;>repeat'((first|exact sNo|refine sT ?_|refine sF ?_|((first|refine sD ?_ ?_|refine sE ?_ ?_|refine sN ?_ ?_|refine sG ?_ ?_)<;>intro ht<;>(first|(cases ht;done)|skip))|refine wr ?_|refine ix ?_|refine ati ?_|refine row ?_|refine app ?_|refine dr ?_|refine VBs.own ?_|refine cf (cright_p h1 ha) ?_|refine cg (cright_p h1 ha) ?_|refine cz (cright_p h1 ha) ?_|refine cf (cright_p h2 hb) ?_|refine cg (cright_p h2 hb) ?_|refine cz (cright_p h2 hb) ?_|fail)<;>(try conv=>whnf))
      all_goals rfl
    · generalize decide (a = b) = t at *
      (try conv=>whnf)<;>repeat'((first|exact sNo|refine sT ?_|refine sF ?_|((first|refine sD ?_ ?_|refine sE ?_ ?_|refine sN ?_ ?_|refine sG ?_ ?_)<;>intro ht<;>(first|(cases ht;done)|skip))|refine wr ?_|refine ix ?_|refine ati ?_|refine row ?_|refine app ?_|refine dr ?_|refine VBs.own ?_|refine cf (cright_p h1 ha) ?_|refine cg (cright_p h1 ha) ?_|refine cz (cright_p h1 ha) ?_|refine cf (cright_p h2 hb) ?_|refine cg (cright_p h2 hb) ?_|refine cz (cright_p h2 hb) ?_|refine cf e ?_|refine cg e ?_|refine cz e ?_|fail)<;>(try conv=>whnf))
      all_goals (rw [ht]; rfl)
theorem cleq_t {a b : List Spn} (h1 : RightC a) (h2 : RightC b) (ha : a.length ≤ 40000) (hb : b.length ≤ 40000) (hm : a.length * (b.length + 1) ≤ 250000) {t : Bool} (ht : decide (byC minusL a b = []) = t) : AFnP Tryz.prog 86 [lstE spE a, lstE spE b] (.bool t) := by
  subst ht
  refine afnp_in ty_ok Tryz.call86 Tryz.func86 rfl rfl (by decide +kernel) ?_
  have m := minusC_p h1 h2 ha hb hm
  have g1 := cright_p (rightC_iff.2 h1) (by omega)
  have g2 := cright_p (rightC_iff.2 h2) (by omega)
  generalize byC minusL a b = M at *
  rcases M with _ | ⟨x, M⟩
  · have hl : ([] : List Spn).length = 0 := rfl
    (try conv=>whnf)<;>repeat'((first|exact sNo|refine sT ?_|refine sF ?_|((first|refine sD ?_ ?_|refine sE ?_ ?_|refine sN ?_ ?_|refine sG ?_ ?_)<;>intro ht<;>(first|(cases ht;done)|skip))|refine wr ?_|refine ix ?_|refine ati ?_|refine row ?_|refine app ?_|refine dr ?_|refine VBs.own ?_|refine cf g1 ?_|refine cg g1 ?_|refine cz g1 ?_|refine cf g2 ?_|refine cg g2 ?_|refine cz g2 ?_|refine cf m ?_|refine cg m ?_|refine cz m ?_|fail)<;>(try conv=>whnf))
    all_goals rfl
  · have hl : (x :: M).length = M.length + 1 := rfl
    rw [show decide (x :: M = []) = false from decide_eq_false (by simp)]
    (try conv=>whnf)<;>repeat'((first|exact sNo|refine sT ?_|refine sF ?_|((first|refine sD ?_ ?_|refine sE ?_ ?_|refine sN ?_ ?_|refine sG ?_ ?_)<;>intro ht<;>(first|(cases ht;done)|skip))|refine wr ?_|refine ix ?_|refine ati ?_|refine row ?_|refine app ?_|refine dr ?_|refine VBs.own ?_|refine cf g1 ?_|refine cg g1 ?_|refine cz g1 ?_|refine cf g2 ?_|refine cg g2 ?_|refine cz g2 ?_|refine cf m ?_|refine cg m ?_|refine cz m ?_|fail)<;>(try conv=>whnf))
theorem cleq_f {a b : List Spn} (h : (rightC a && rightC b) = false) (ha : a.length ≤ 1000000) (hb : b.length ≤ 1000000) : AFnP Tryz.prog 86 [lstE spE a, lstE spE b] (.bool false) := by
  refine afnp_in ty_ok Tryz.call86 Tryz.func86 rfl rfl (by decide +kernel) ?_
  cases h1 : rightC a
  · (try conv=>whnf)<;>repeat'((first|exact sNo|refine sT ?_|refine sF ?_|((first|refine sD ?_ ?_|refine sE ?_ ?_|refine sN ?_ ?_|refine sG ?_ ?_)<;>intro ht<;>(first|(cases ht;done)|skip))|refine wr ?_|refine ix ?_|refine ati ?_|refine row ?_|refine app ?_|refine dr ?_|refine VBs.own ?_|refine cf (cright_p h1 ha) ?_|refine cg (cright_p h1 ha) ?_|refine cz (cright_p h1 ha) ?_|fail)<;>(try conv=>whnf))
  · rw [h1, Bool.true_and] at h
    (try conv=>whnf)<;>repeat'((first|exact sNo|refine sT ?_|refine sF ?_|((first|refine sD ?_ ?_|refine sE ?_ ?_|refine sN ?_ ?_|refine sG ?_ ?_)<;>intro ht<;>(first|(cases ht;done)|skip))|refine wr ?_|refine ix ?_|refine ati ?_|refine row ?_|refine app ?_|refine dr ?_|refine VBs.own ?_|refine cf (cright_p h1 ha) ?_|refine cg (cright_p h1 ha) ?_|refine cz (cright_p h1 ha) ?_|refine cf (cright_p h hb) ?_|refine cg (cright_p h hb) ?_|refine cz (cright_p h hb) ?_|fail)<;>(try conv=>whnf))
end Go.Proofs.YtlghgdgpbnlpmaaGreat
/- What is proved: chapter 08's law function TreeDots answers true. Conditions: none. -/
namespace Go.Proofs.YtlghgdgpbnlpmaaGreat
open Go.RowKit
set_option linter.unusedVariables false
set_option linter.unusedSimpArgs false
set_option maxRecDepth 100000
set_option maxHeartbeats 16000000
mutual
theorem below_dots : ∀ (t : Tr8) (p : List ByteArray), (belowT t p).map (fun x => x.2.1) = allT t
  | .mk es ks, p => by
    simp only [belowT, allT, List.map_append, List.map_map, belowK_dots ks p]
    rfl
theorem belowK_dots : ∀ (ks : List (ByteArray × Tr8)) (p : List ByteArray), (belowK ks p).map (fun x => x.2.1) = allK ks
  | [], p => rfl
  | x :: r, p => by simp only [belowK, allK, List.map_append, belowX_dots x p, belowK_dots r p]
theorem belowX_dots : ∀ (x : ByteArray × Tr8) (p : List ByteArray), (belowX x p).map (fun x => x.2.1) = allX x
  | (k, t), p => by simpa only [belowX, allX] using below_dots t (p ++ [k])
end
theorem mem_allK {x : Int × Int} : ∀ {ks : List (ByteArray × Tr8)}, x ∈ allK ks → ∃ y ∈ ks, x ∈ allT y.2
  | y :: r, h => by
    rw [allK, allX_eq, List.mem_append] at h
    rcases h with h | h
    · exact ⟨y, List.mem_cons_self .., h⟩
    · obtain ⟨z, hz, h⟩ := mem_allK h
      exact ⟨z, List.mem_cons_of_mem _ hz, h⟩
theorem all_ok : ∀ (d : Nat) (t : Tr8), rightT d t = true → (allT t).all okDot = true
  | 0, t, h => by cases h
  | d + 1, t, h => by
    rw [List.all_eq_true]
    intro x hx
    rw [allT_eq, List.mem_append] at hx
    rcases hx with hx | hx
    · obtain ⟨e, he, rfl⟩ := List.mem_map.1 hx
      obtain ⟨i, hi, rfl⟩ := List.getElem_of_mem he
      rw [rightT, Bool.and_eq_true] at h
      exact ((goodE_iff hi).1 (List.all_eq_true.1 h.1 i (List.mem_range.2 hi))).1.1
    · obtain ⟨y, hy, hx⟩ := mem_allK hx
      obtain ⟨i, hi, rfl⟩ := List.getElem_of_mem hy
      exact List.all_eq_true.1 (all_ok d _ (rightT_child h hi)) x hx
theorem tdots_t (t : Tr8) (hr : rightT 5 t = true) (hc : cntT t ≤ 200000) : AFnP Tryz.prog 85 [.agg [lstE entE t.es, lstE kidRow t.ks]] (.tup [lstE spE (ofC (allT t)), i64 0]) := by
  have r1 := tright_a t (by omega)
  have r2 := all_a 5 t hr (by omega)
  have l1 := allT_len t
  have r3 := ofC_p (allT t) (by omega) (all_ok 5 t hr)
  rw [hr] at r1
  refine afnp_in ty_ok Tryz.call85 Tryz.func85 rfl rfl (by decide +kernel) ?_
  generalize ofC (allT t) = c at *
  generalize allT t = l at *
  (try conv=>whnf)<;>repeat'((first|exact sNo|refine sT ?_|refine sF ?_|((first|refine sD ?_ ?_|refine sE ?_ ?_|refine sN ?_ ?_|refine sG ?_ ?_)<;>intro ht<;>(first|(cases ht;done)|skip))|refine wr ?_|refine ix ?_|refine ati ?_|refine row ?_|refine app ?_|refine dr ?_|refine VBs.own ?_|refine cf r1 ?_|refine cg r1 ?_|refine cz r1 ?_|refine cf r2 ?_|refine cg r2 ?_|refine cz r2 ?_|refine cf r3 ?_|refine cg r3 ?_|refine cz r3 ?_|fail)<;>(try conv=>whnf))
  all_goals rfl
theorem tdots_f (t : Tr8) (hr : rightT 5 t = false) (hc : cntT t ≤ 200000) : AFnP Tryz.prog 85 [.agg [lstE entE t.es, lstE kidRow t.ks]] (.tup [.lst 0 [], i64 1]) := by
  have r1 := tright_a t (by omega)
  rw [hr] at r1
  refine afnp_in ty_ok Tryz.call85 Tryz.func85 rfl rfl (by decide +kernel) ?_
  (try conv=>whnf)<;>repeat'((first|exact sNo|refine sT ?_|refine sF ?_|((first|refine sD ?_ ?_|refine sE ?_ ?_|refine sN ?_ ?_|refine sG ?_ ?_)<;>intro ht<;>(first|(cases ht;done)|skip))|refine wr ?_|refine ix ?_|refine ati ?_|refine row ?_|refine app ?_|refine dr ?_|refine VBs.own ?_|refine cf r1 ?_|refine cg r1 ?_|refine cz r1 ?_|fail)<;>(try conv=>whnf))
  all_goals rfl
theorem rdots_t (t : Tr8) (hr : rightT 5 t = true) (hc : cntT t ≤ 200000) : AFnP Tryz.prog 71 [.agg [lstE entE t.es, lstE kidRow t.ks]] (lstE spE (ofC (allT t))) := by
  have r1 := leaves_a 5 t (by omega) hr (by omega)
  have l1 := belowT_len t []
  have l2 := allT_len t
  have r3 := rofC_a (allT t) (by omega) (all_ok 5 t hr)
  have e := below_dots t []
  generalize ofC (allT t) = c at *
  rw [← e] at r3
  refine afnp_in ty_ok Tryz.call71 Tryz.func71 rfl rfl (by decide +kernel) ?_
  generalize belowT t [] = l at *
  (try conv=>whnf)<;>repeat'((first|exact sNo|refine sT ?_|refine sF ?_|((first|refine sD ?_ ?_|refine sE ?_ ?_|refine sN ?_ ?_|refine sG ?_ ?_)<;>intro ht<;>(first|(cases ht;done)|skip))|refine wr ?_|refine ix ?_|refine ati ?_|refine row ?_|refine app ?_|refine dr ?_|refine VBs.own ?_|refine cf r1 ?_|refine cg r1 ?_|refine cz r1 ?_|fail)<;>(try conv=>whnf))
  refine VLp.mk ⟨[.slot 3 124 2], [], [3, 10], fun k vs h => ∃ i : Nat, vs = [.own 0 i, i64 i] ∧ h = [.row 0 124 2 (((l.take i).map fun x => x.2.1).map dtE)] ∧ i ≤ l.length ∧ k = l.length - i, l.length, ?_⟩
  conv => whnf
  refine ⟨⟨0, rfl, rfl, by omega, by omega⟩, ?_⟩
  rintro k vs h ⟨i, rfl, rfl, hi, rfl⟩
  by_cases hin : i < l.length
  · (try conv=>whnf)<;>repeat'((first|exact sNo|refine sT ?_|refine sF ?_|((first|refine sD ?_ ?_|refine sE ?_ ?_|refine sN ?_ ?_|refine sG ?_ ?_)<;>intro ht<;>(first|(cases ht;done)|skip))|refine wr ?_|refine ix ?_|refine ati ?_|refine row ?_|refine app ?_|refine dr ?_|refine VBs.own ?_|fail)<;>(try conv=>whnf))
    all_goals exact VRd.mk rfl ⟨l.length - (i + 1), by omega, i + 1, rfl, by rw [← take_snoc hin, List.map_append, List.map_append]; rfl, by omega, rfl⟩
  · obtain rfl : i = l.length := by omega
    rw [List.take_length]
    have r3 : AFnP Tryz.prog 102 [.lst l.length ((l.map fun x => x.2.1).map dtE)] (lstE spE c) := by
      rw [lstE, List.length_map] at r3
      exact r3
    (try conv=>whnf)<;>repeat'((first|exact sNo|refine sT ?_|refine sF ?_|((first|refine sD ?_ ?_|refine sE ?_ ?_|refine sN ?_ ?_|refine sG ?_ ?_)<;>intro ht<;>(first|(cases ht;done)|skip))|refine wr ?_|refine ix ?_|refine ati ?_|refine row ?_|refine app ?_|refine dr ?_|refine VBs.own ?_|refine cf r3 ?_|refine cg r3 ?_|refine cz r3 ?_|fail)<;>(try conv=>whnf))
    all_goals rfl
end Go.Proofs.YtlghgdgpbnlpmaaGreat
