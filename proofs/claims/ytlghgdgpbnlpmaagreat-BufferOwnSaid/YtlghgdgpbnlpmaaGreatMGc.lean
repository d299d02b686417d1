/- What is proved: what the functions of chapter 23's reference answer. Conditions: none. -/
import Derived.Test.YtlghgdgpbnlpmaaGreatGi
import Derived.Test.YtlghgdgpbnlpmaaGreatGka
import Derived.Test.YtlghgdgpbnlpmaaGreatGd
namespace Go.Proofs.YtlghgdgpbnlpmaaGreat
open Go.RowKit
set_option linter.unusedVariables false
set_option linter.unusedSimpArgs false
set_option maxRecDepth 100000
set_option maxHeartbeats 16000000
def aheadB (a b : Bun) : Bool := decide (a.dc < b.dc) || (decide (a.dc = b.dc) && decide (a.af < b.af))
theorem rahead_a (a b : Bun) : AFnP Tryz.prog 61 [.agg (bunE a), .agg (bunE b)] (.bool (aheadB a b)) := by
  refine afp ty_ok Tryz.call61 Tryz.func61 ?_
  unfold aheadB
  by_cases h1 : a.dc < b.dc
  · rw [decide_eq_true h1]
    (try conv=>whnf)<;>repeat'((first|exact sNo|refine sT ?_|refine sF ?_|((first|refine sD ?_ ?_|refine sE ?_ ?_|refine sN ?_ ?_|refine sG ?_ ?_)<;>intro ht<;>(first|(cases ht;done)|skip))|refine wr ?_|refine ix ?_|refine ati ?_|refine row ?_|refine app ?_|refine dr ?_|refine VBs.own ?_|fail)<;>(try conv=>whnf))
    all_goals rfl
  · rw [decide_eq_false h1]
    by_cases h2 : a.dc = b.dc
    · rw [decide_eq_true h2]
      by_cases h3 : a.af < b.af
      · rw [decide_eq_true h3]
        (try conv=>whnf)<;>repeat'((first|exact sNo|refine sT ?_|refine sF ?_|((first|refine sD ?_ ?_|refine sE ?_ ?_|refine sN ?_ ?_|refine sG ?_ ?_)<;>intro ht<;>(first|(cases ht;done)|skip))|refine wr ?_|refine ix ?_|refine ati ?_|refine row ?_|refine app ?_|refine dr ?_|refine VBs.own ?_|fail)<;>(try conv=>whnf))
        all_goals rfl
      · rw [decide_eq_false h3]
        (try conv=>whnf)<;>repeat'((first|exact sNo|refine sT ?_|refine sF ?_|((first|refine sD ?_ ?_|refine sE ?_ ?_|refine sN ?_ ?_|refine sG ?_ ?_)<;>intro ht<;>(first|(cases ht;done)|skip))|refine wr ?_|refine ix ?_|refine ati ?_|refine row ?_|refine app ?_|refine dr ?_|refine VBs.own ?_|fail)<;>(try conv=>whnf))
        all_goals rfl
    · rw [decide_eq_false h2]
      (try conv=>whnf)<;>repeat'((first|exact sNo|refine sT ?_|refine sF ?_|((first|refine sD ?_ ?_|refine sE ?_ ?_|refine sN ?_ ?_|refine sG ?_ ?_)<;>intro ht<;>(first|(cases ht;done)|skip))|refine wr ?_|refine ix ?_|refine ati ?_|refine row ?_|refine app ?_|refine dr ?_|refine VBs.own ?_|fail)<;>(try conv=>whnf))
      all_goals rfl
theorem rahead_p {a b : Bun} {t : Bool} (h : aheadB a b = t) : AFnP Tryz.prog 61 [.agg (bunE a), .agg (bunE b)] (.bool t) := by subst h; exact rahead_a a b
theorem ahead_key {a b : Bun} (ha : rightB a = true) (hb : rightB b = true) : aheadB a b = decide (keyB a < keyB b) := by
  rw [Bool.eq_iff_iff, decide_eq_true_eq, key_lt ha hb]
  unfold aheadB
  simp only [Bool.or_eq_true, Bool.and_eq_true, decide_eq_true_eq]
abbrev rG (l : List Bun) : AV := .agg [lstE bunE l]
theorem radd_a (l : List Bun) (b : Bun) (hG : GI l) (hl : l.length ≤ 64) (hb : SmB b) : AFnP Tryz.prog 15 [rG l, .agg (bunE b)] (.tup [rG (addG l b).1, .bool (addG l b).2.1, i64 (addG l b).2.2]) := by
  refine afp ty_ok Tryz.call15 Tryz.func15 ?_
  unfold rG
  cases hR : rightB b
  · have r1 := rright_p hb hR
    rw [addG_no hR]
    (try conv=>whnf)<;>repeat'((first|exact sNo|refine sT ?_|refine sF ?_|((first|refine sD ?_ ?_|refine sE ?_ ?_|refine sN ?_ ?_|refine sG ?_ ?_)<;>intro ht<;>(first|(cases ht;done)|skip))|refine wr ?_|refine ix ?_|refine ati ?_|refine row ?_|refine app ?_|refine dr ?_|refine VAnd.mk ?_ ?_|exact VJe.mk rfl ⟨rfl,rfl⟩|refine .inl (slM ?_)|refine .inl (slO ?_)|refine slM ?_|refine slO ?_|refine slN ?_|refine slS ?_|refine swB (swM fun C hC=>?_)|refine sj ?_|refine .inl (sv ?_)|refine sv ?_|refine cl ?_|refine s3 ?_|refine az ?_|refine rm ?_|refine VBs.own ?_|refine cf r1 ?_|refine cg r1 ?_|refine cz r1 ?_|fail)<;>(try conv=>whnf))
    all_goals rfl
  have r1 := rright_p hb hR
  have hp := posG_le b l
  have hlt := fun i (h1 : i < posG b l) (h2 : i < l.length) => (key_lt (hG.ok _ (List.getElem_mem h2)).1 hR).1 (posG_lt h1 h2)
  have hahead := fun i (h2 : i < l.length) => ahead_key (hG.ok _ (List.getElem_mem h2)).1 hR
  cases hF : fndG b l
  · have hne := fun i (h2 : i < l.length) => (not_congr (key_eq (hG.ok _ (List.getElem_mem h2)).1 hR)).1 (fndG_no hG hF h2)
    have hge := fun i (h1 : posG b l ≤ i) (h2 : i < l.length) => posG_ge hG h1 h2
    have hlk := fun i (h1 : i < posG b l) (h2 : i < l.length) => posG_lt h1 h2
    have hend : 64 ≤ l.length ∨ ¬ 64 ≤ l.length := by omega
    have hres : (addG l b) = if 64 ≤ l.length then (l, false, 4) else (l.take (posG b l) ++ b :: l.drop (posG b l), true, 0) := by
      split
      · rename_i h; exact addG_full hR hF h
      · rename_i h; exact addG_in hR hF h
    rw [hres]
    clear hres
    generalize posG b l = p at *
    (try conv=>whnf)<;>repeat'((first|exact sNo|refine sT ?_|refine sF ?_|((first|refine sD ?_ ?_|refine sE ?_ ?_|refine sN ?_ ?_|refine sG ?_ ?_)<;>intro ht<;>(first|(cases ht;done)|skip))|refine wr ?_|refine ix ?_|refine ati ?_|refine row ?_|refine app ?_|refine dr ?_|refine VAnd.mk ?_ ?_|exact VJe.mk rfl ⟨rfl,rfl⟩|refine .inl (slM ?_)|refine .inl (slO ?_)|refine slM ?_|refine slO ?_|refine slN ?_|refine slS ?_|refine swB (swM fun C hC=>?_)|refine sj ?_|refine .inl (sv ?_)|refine sv ?_|refine cl ?_|refine s3 ?_|refine az ?_|refine rm ?_|refine VBs.own ?_|refine cf r1 ?_|refine cg r1 ?_|refine cz r1 ?_|fail)<;>(try conv=>whnf))
    refine VLp.mk ⟨[], [2, 3, 4], [7, 17], fun k vs h => ∃ i a : Nat, vs = [i64 a, i64 i] ∧ h = [.blk 0 [lstE bunE l] 31, .blk 1 (bunE b) 43, .blk 2 [.nils] 31] ∧ i ≤ l.length ∧ k = l.length - i ∧ a = min i p, l.length, ?_⟩
    conv => whnf
    refine ⟨⟨0, 0, rfl, rfl, by omega, by omega, by omega⟩, ?_⟩
    rintro k vs h ⟨i, a, rfl, rfl, hi, rfl, ha⟩
    by_cases hin : i < l.length
    · have hn := hne i hin
      by_cases hip : i < p
      · have h1 := hlt i hip hin
        have q1 := rahead_p ((hahead i hin).trans (decide_eq_true (hlk i hip hin)))
        (try conv=>whnf)<;>repeat'((first|exact sNo|refine sT ?_|refine sF ?_|((first|refine sD ?_ ?_|refine sE ?_ ?_|refine sN ?_ ?_|refine sG ?_ ?_)<;>intro ht<;>(first|(cases ht;done)|skip))|refine wr ?_|refine ix ?_|refine ati ?_|refine row ?_|refine app ?_|refine dr ?_|refine VAnd.mk ?_ ?_|exact VJe.mk rfl ⟨rfl,rfl⟩|refine .inl (slM ?_)|refine .inl (slO ?_)|refine slM ?_|refine slO ?_|refine slN ?_|refine slS ?_|refine swB (swM fun C hC=>?_)|refine sj ?_|refine .inl (sv ?_)|refine sv ?_|refine cl ?_|refine s3 ?_|refine az ?_|refine rm ?_|refine VBs.own ?_|refine cf q1 ?_|refine cg q1 ?_|refine cz q1 ?_|fail)<;>(try conv=>whnf))
        all_goals exact VRd.mk rfl ⟨l.length - (i + 1), by omega, i + 1, i + 1, rfl, rfl, by omega, rfl, by omega⟩
      · have q1 := rahead_p ((hahead i hin).trans (decide_eq_false (by have := hge i (by omega) hin; omega)))
        (try conv=>whnf)<;>repeat'((first|exact sNo|refine sT ?_|refine sF ?_|((first|refine sD ?_ ?_|refine sE ?_ ?_|refine sN ?_ ?_|refine sG ?_ ?_)<;>intro ht<;>(first|(cases ht;done)|skip))|refine wr ?_|refine ix ?_|refine ati ?_|refine row ?_|refine app ?_|refine dr ?_|refine VAnd.mk ?_ ?_|exact VJe.mk rfl ⟨rfl,rfl⟩|refine .inl (slM ?_)|refine .inl (slO ?_)|refine slM ?_|refine slO ?_|refine slN ?_|refine slS ?_|refine swB (swM fun C hC=>?_)|refine sj ?_|refine .inl (sv ?_)|refine sv ?_|refine cl ?_|refine s3 ?_|refine az ?_|refine rm ?_|refine VBs.own ?_|refine cf q1 ?_|refine cg q1 ?_|refine cz q1 ?_|fail)<;>(try conv=>whnf))
        all_goals exact VRd.mk rfl ⟨l.length - (i + 1), by omega, i + 1, a, rfl, rfl, by omega, rfl, by omega⟩
    · obtain rfl : i = l.length := by omega
      obtain rfl : a = p := by omega
      by_cases h64 : 64 ≤ l.length
      · rw [if_pos h64]
        (try conv=>whnf)<;>repeat'((first|exact sNo|refine sT ?_|refine sF ?_|((first|refine sD ?_ ?_|refine sE ?_ ?_|refine sN ?_ ?_|refine sG ?_ ?_)<;>intro ht<;>(first|(cases ht;done)|skip))|refine wr ?_|refine ix ?_|refine ati ?_|refine row ?_|refine app ?_|refine dr ?_|refine VAnd.mk ?_ ?_|exact VJe.mk rfl ⟨rfl,rfl⟩|refine .inl (slM ?_)|refine .inl (slO ?_)|refine slM ?_|refine slO ?_|refine slN ?_|refine slS ?_|refine swB (swM fun C hC=>?_)|refine sj ?_|refine .inl (sv ?_)|refine sv ?_|refine cl ?_|refine s3 ?_|refine az ?_|refine rm ?_|refine VBs.own ?_|fail)<;>(try conv=>whnf))
        all_goals rfl
      · rw [if_neg h64]
        have hx1 : (List.drop 0 (List.take a l)).length ≤ l.length := by simp; omega
        have hx2 : (List.drop a (List.take l.length l)).length ≤ l.length := by simp
        (try conv=>whnf)<;>repeat'((first|exact sNo|refine sT ?_|refine sF ?_|((first|refine sD ?_ ?_|refine sE ?_ ?_|refine sN ?_ ?_|refine sG ?_ ?_)<;>intro ht<;>(first|(cases ht;done)|skip))|refine wr ?_|refine ix ?_|refine ati ?_|refine row ?_|refine app ?_|refine dr ?_|refine VAnd.mk ?_ ?_|exact VJe.mk rfl ⟨rfl,rfl⟩|refine .inl (slM ?_)|refine .inl (slO ?_)|refine slM ?_|refine slO ?_|refine slN ?_|refine slS ?_|refine swB (swM fun C hC=>?_)|refine sj ?_|refine .inl (sv ?_)|refine sv ?_|refine cl ?_|refine s3 ?_|refine az ?_|refine rm ?_|refine VBs.own ?_|refine Or.inl (VSl.map (l := a) (h := l.length) rfl rfl (by omega) (by omega) (fun _ => rfl) ?_)|refine VSl.map (l := a) (h := l.length) rfl rfl (by omega) (by omega) (fun _ => rfl) ?_|fail)<;>(try conv=>whnf))
        all_goals (refine congrArg (fun x => AV.tup [.agg [x], .bool true, i64 0]) ?_; unfold lstE; congr 1)
        all_goals first | (simp [bunE, i64, lstE]; done) | (simp; omega)
  · obtain ⟨hpl, hpe⟩ := fndG_iff.1 hF
    have he := (key_eq (hG.ok _ (List.getElem_mem hpl)).1 hR).1 hpe
    have hlk := fun i (h1 : i < posG b l) (h2 : i < l.length) => posG_lt h1 h2
    rw [addG_there hR hF]
    generalize posG b l = p at *
    (try conv=>whnf)<;>repeat'((first|exact sNo|refine sT ?_|refine sF ?_|((first|refine sD ?_ ?_|refine sE ?_ ?_|refine sN ?_ ?_|refine sG ?_ ?_)<;>intro ht<;>(first|(cases ht;done)|skip))|refine wr ?_|refine ix ?_|refine ati ?_|refine row ?_|refine app ?_|refine dr ?_|refine VAnd.mk ?_ ?_|exact VJe.mk rfl ⟨rfl,rfl⟩|refine .inl (slM ?_)|refine .inl (slO ?_)|refine slM ?_|refine slO ?_|refine slN ?_|refine slS ?_|refine swB (swM fun C hC=>?_)|refine sj ?_|refine .inl (sv ?_)|refine sv ?_|refine cl ?_|refine s3 ?_|refine az ?_|refine rm ?_|refine VBs.own ?_|refine cf r1 ?_|refine cg r1 ?_|refine cz r1 ?_|fail)<;>(try conv=>whnf))
    refine VLp.mk ⟨[], [2, 3, 4], [7, 17], fun k vs h => ∃ i : Nat, vs = [i64 i, i64 i] ∧ h = [.blk 0 [lstE bunE l] 31, .blk 1 (bunE b) 43, .blk 2 [.nils] 31] ∧ i ≤ p ∧ k = l.length - i, l.length, ?_⟩
    conv => whnf
    refine ⟨⟨0, rfl, rfl, by omega, by omega⟩, ?_⟩
    rintro k vs h ⟨i, rfl, rfl, hi, rfl⟩
    have hin : i < l.length := by omega
    by_cases hip : i < p
    · have h1 := hlt i hip hin
      have q1 := rahead_p ((hahead i hin).trans (decide_eq_true (hlk i hip hin)))
      (try conv=>whnf)<;>repeat'((first|exact sNo|refine sT ?_|refine sF ?_|((first|refine sD ?_ ?_|refine sE ?_ ?_|refine sN ?_ ?_|refine sG ?_ ?_)<;>intro ht<;>(first|(cases ht;done)|skip))|refine wr ?_|refine ix ?_|refine ati ?_|refine row ?_|refine app ?_|refine dr ?_|refine VAnd.mk ?_ ?_|exact VJe.mk rfl ⟨rfl,rfl⟩|refine .inl (slM ?_)|refine .inl (slO ?_)|refine slM ?_|refine slO ?_|refine slN ?_|refine slS ?_|refine swB (swM fun C hC=>?_)|refine sj ?_|refine .inl (sv ?_)|refine sv ?_|refine cl ?_|refine s3 ?_|refine az ?_|refine rm ?_|refine VBs.own ?_|refine cf q1 ?_|refine cg q1 ?_|refine cz q1 ?_|fail)<;>(try conv=>whnf))
      all_goals exact VRd.mk rfl ⟨l.length - (i + 1), by omega, i + 1, rfl, rfl, by omega, rfl⟩
    · obtain rfl : i = p := by omega
      obtain ⟨he1, he2⟩ := he
      (try conv=>whnf)<;>repeat'((first|exact sNo|refine sT ?_|refine sF ?_|((first|refine sD ?_ ?_|refine sE ?_ ?_|refine sN ?_ ?_|refine sG ?_ ?_)<;>intro ht<;>(first|(cases ht;done)|skip))|refine wr ?_|refine ix ?_|refine ati ?_|refine row ?_|refine app ?_|refine dr ?_|refine VAnd.mk ?_ ?_|exact VJe.mk rfl ⟨rfl,rfl⟩|refine .inl (slM ?_)|refine .inl (slO ?_)|refine slM ?_|refine slO ?_|refine slN ?_|refine slS ?_|refine swB (swM fun C hC=>?_)|refine sj ?_|refine .inl (sv ?_)|refine sv ?_|refine cl ?_|refine s3 ?_|refine az ?_|refine rm ?_|refine VBs.own ?_|fail)<;>(try conv=>whnf))
      all_goals rfl
theorem rnext_a (l : List Bun) (v : Int → Int) (hG : GI l) (hl : l.length ≤ 64) : AFnP Tryz.prog 17 [rG l, vecE v] (.tup [rG (nextG l v).1, .agg (bunE (nextG l v).2.1), .bool (nextG l v).2.2]) := by
  refine afp ty_ok Tryz.call17 Tryz.func17 ?_
  unfold rG
  have hsn := fun i (h : i < l.length) => restG_snoc (l.take i) v l[i]
  have hrl := fun i => (restG_sub (l.take i) v).length_le
  (try conv=>whnf)<;>repeat'((first|exact sNo|refine sT ?_|refine sF ?_|((first|refine sD ?_ ?_|refine sE ?_ ?_|refine sN ?_ ?_|refine sG ?_ ?_)<;>intro ht<;>(first|(cases ht;done)|skip))|refine wr ?_|refine ix ?_|refine ati ?_|refine row ?_|refine app ?_|refine dr ?_|refine VAnd.mk ?_ ?_|exact VJe.mk rfl ⟨rfl,rfl⟩|refine .inl (slM ?_)|refine .inl (slO ?_)|refine slM ?_|refine slO ?_|refine slN ?_|refine slS ?_|refine swB (swM fun C hC=>?_)|refine sj ?_|refine .inl (sv ?_)|refine sv ?_|refine cl ?_|refine s3 ?_|refine az ?_|refine rm ?_|refine VBs.own ?_|fail)<;>(try conv=>whnf))
  refine VLp.mk ⟨[.slot 7 43 10], [2, 3, 4, 5], [7, 14], fun k vs h => ∃ i : Nat, vs = [.own 4 (restG (l.take i) v).length, i64 i] ∧ h = [.blk 0 [lstE bunE l] 31, .blk 1 [i64 (v 0), i64 (v 1), i64 (v 2), i64 (v 3)] 33, .blk 2 [.nils] 31, .blk 3 zeroN 43, .row 4 43 10 ((restG (l.take i) v).map bunE)] ∧ i ≤ l.length ∧ k = l.length - i, l.length, ?_⟩
  conv => whnf
  refine ⟨⟨0, rfl, rfl, by omega, by omega⟩, ?_⟩
  rintro k vs h ⟨i, rfl, rfl, hi, rfl⟩
  by_cases hin : i < l.length
  · obtain ⟨hR, hS⟩ := hG.ok _ (List.getElem_mem hin)
    have hd := (right_nums hR).1.1
    have hs := hsn i hin
    have hr := hrl i
    rw [List.length_take] at hr
    have htk : l.take (i + 1) = l.take i ++ [l[i]] := (take_snoc hin).symm
    have hkn := known_iff hR (v := v)
    have hre := getE (f := bunE) hin
    cases hk : knownB l[i] v
    · rw [hk, if_neg (by decide)] at hs
      have hk' : ¬ l[i].la ≤ v l[i].dc := fun h => by rw [hkn.2 h] at hk; cases hk
      rcases four_dn hd with ⟨hd', hd⟩ | ⟨hd', hd⟩ | ⟨hd', hd⟩ | ⟨hd', hd⟩
      all_goals
        rw [hd'] at hk'
        generalize restG (l.take i) v = X at *
        (try conv=>whnf)<;>repeat'((first|exact sNo|refine sT ?_|refine sF ?_|((first|refine sD ?_ ?_|refine sE ?_ ?_|refine sN ?_ ?_|refine sG ?_ ?_)<;>intro ht<;>(first|(cases ht;done)|skip))|refine wr ?_|refine ix ?_|refine ati ?_|refine row ?_|refine app ?_|refine dr ?_|refine VAnd.mk ?_ ?_|exact VJe.mk rfl ⟨rfl,rfl⟩|refine .inl (slM ?_)|refine .inl (slO ?_)|refine slM ?_|refine slO ?_|refine slN ?_|refine slS ?_|refine swB (swM fun C hC=>?_)|refine sj ?_|refine .inl (sv ?_)|refine sv ?_|refine cl ?_|refine s3 ?_|refine az ?_|refine rm ?_|refine VBs.own ?_|fail)<;>(try conv=>whnf))
        all_goals exact VRd.mk rfl ⟨l.length - (i + 1), by omega, i + 1, by rw [htk, hs, List.length_append]; rfl, by rw [htk, hs, List.map_append]; rfl, by omega, rfl⟩
    · rw [hk, if_pos rfl, List.append_nil] at hs
      have hk' := hkn.1 hk
      rcases four_dn hd with ⟨hd', hd⟩ | ⟨hd', hd⟩ | ⟨hd', hd⟩ | ⟨hd', hd⟩
      all_goals
        rw [hd'] at hk'
        generalize restG (l.take i) v = X at *
        (try conv=>whnf)<;>repeat'((first|exact sNo|refine sT ?_|refine sF ?_|((first|refine sD ?_ ?_|refine sE ?_ ?_|refine sN ?_ ?_|refine sG ?_ ?_)<;>intro ht<;>(first|(cases ht;done)|skip))|refine wr ?_|refine ix ?_|refine ati ?_|refine row ?_|refine app ?_|refine dr ?_|refine VAnd.mk ?_ ?_|exact VJe.mk rfl ⟨rfl,rfl⟩|refine .inl (slM ?_)|refine .inl (slO ?_)|refine slM ?_|refine slO ?_|refine slN ?_|refine slS ?_|refine swB (swM fun C hC=>?_)|refine sj ?_|refine .inl (sv ?_)|refine sv ?_|refine cl ?_|refine s3 ?_|refine az ?_|refine rm ?_|refine VBs.own ?_|fail)<;>(try conv=>whnf))
        all_goals exact VRd.mk rfl ⟨l.length - (i + 1), by omega, i + 1, by rw [htk, hs]; rfl, by rw [htk, hs]; rfl, by omega, rfl⟩
  · obtain rfl : i = l.length := by omega
    rw [List.take_length]
    have hnone := nextG_none (l := l) (v := v)
    have hsome := fun i => nextG_some (l := l) (v := v) (i := i)
    have hok := (hG.sub (restG_sub l v)).ok
    have hl2 := (restG_sub l v).length_le
    clear hsn hrl hG
    generalize restG l v = L at *
    (try conv=>whnf)<;>repeat'((first|exact sNo|refine sT ?_|refine sF ?_|((first|refine sD ?_ ?_|refine sE ?_ ?_|refine sN ?_ ?_|refine sG ?_ ?_)<;>intro ht<;>(first|(cases ht;done)|skip))|refine wr ?_|refine ix ?_|refine ati ?_|refine row ?_|refine app ?_|refine dr ?_|refine VAnd.mk ?_ ?_|exact VJe.mk rfl ⟨rfl,rfl⟩|refine .inl (slM ?_)|refine .inl (slO ?_)|refine slM ?_|refine slO ?_|refine slN ?_|refine slS ?_|refine swB (swM fun C hC=>?_)|refine sj ?_|refine .inl (sv ?_)|refine sv ?_|refine cl ?_|refine s3 ?_|refine az ?_|refine rm ?_|refine VBs.own ?_|fail)<;>(try conv=>whnf))
    refine VLp.mk ⟨[.frz [4]], [2, 3, 4, 5], [43], fun k vs h => ∃ i : Nat, vs = [i64 i] ∧ h = [.blk 0 [lstE bunE l] 31, .blk 1 [i64 (v 0), i64 (v 1), i64 (v 2), i64 (v 3)] 33, .blk 2 [.nils] 31, .blk 3 zeroN 43] ∧ i ≤ L.length ∧ k = L.length - i ∧ ∀ j (hj : j < i) (hjl : j < L.length), readyB L[j] v = false, L.length, ?_⟩
    conv => whnf
    refine ⟨⟨0, rfl, rfl, by omega, by omega, fun j hj => by omega⟩, ?_⟩
    rintro k vs h ⟨i, rfl, rfl, hi, rfl, hg⟩
    by_cases hin : i < L.length
    · obtain ⟨hR, hS⟩ := hok _ (List.getElem_mem hin)
      have hd := (right_nums hR).1.1
      have q1 := rready_p hd (ready_two hR v)
      cases hk : readyB L[i] v
      · rw [hk] at q1
        (try conv=>whnf)<;>repeat'((first|exact sNo|refine sT ?_|refine sF ?_|((first|refine sD ?_ ?_|refine sE ?_ ?_|refine sN ?_ ?_|refine sG ?_ ?_)<;>intro ht<;>(first|(cases ht;done)|skip))|refine wr ?_|refine ix ?_|refine ati ?_|refine row ?_|refine app ?_|refine dr ?_|refine VAnd.mk ?_ ?_|exact VJe.mk rfl ⟨rfl,rfl⟩|refine .inl (slM ?_)|refine .inl (slO ?_)|refine slM ?_|refine slO ?_|refine slN ?_|refine slS ?_|refine swB (swM fun C hC=>?_)|refine sj ?_|refine .inl (sv ?_)|refine sv ?_|refine cl ?_|refine s3 ?_|refine az ?_|refine rm ?_|refine VBs.own ?_|refine cf q1 ?_|refine cg q1 ?_|refine cz q1 ?_|fail)<;>(try conv=>whnf))
        all_goals exact VRd.mk rfl ⟨L.length - (i + 1), by omega, i + 1, rfl, rfl, by omega, rfl, fun j hj hjl => by rcases Nat.lt_succ_iff_lt_or_eq.1 hj with h | rfl; exact hg j h hjl; exact hk⟩
      · rw [hk] at q1
        rw [hsome i hin hk hg]
        have hx1 : (List.drop 0 (List.take i L)).length ≤ L.length := by simp; omega
        have hx2 : (List.drop (i + 1) (List.take L.length L)).length ≤ L.length := by simp
        (try conv=>whnf)<;>repeat'((first|(refine drx [] [10] [] ?_;(try conv=>whnf);(fail_if_success (show False)))|exact sNo|refine sT ?_|refine sF ?_|((first|refine sD ?_ ?_|refine sE ?_ ?_|refine sN ?_ ?_|refine sG ?_ ?_)<;>intro ht<;>(first|(cases ht;done)|skip))|refine wr ?_|refine ix ?_|refine ati ?_|refine row ?_|refine app ?_|refine dr ?_|refine VAnd.mk ?_ ?_|exact VJe.mk rfl ⟨rfl,rfl⟩|refine .inl (slM ?_)|refine .inl (slO ?_)|refine slM ?_|refine slO ?_|refine slN ?_|refine slS ?_|refine swB (swM fun C hC=>?_)|refine sj ?_|refine .inl (sv ?_)|refine sv ?_|refine cl ?_|refine s3 ?_|refine az ?_|refine rm ?_|refine VBs.own ?_|refine cf q1 ?_|refine cg q1 ?_|refine cz q1 ?_|refine Or.inl (VSl.map (l := i + 1) (h := L.length) rfl rfl (by omega) (by omega) (fun _ => rfl) ?_)|refine VSl.map (l := i + 1) (h := L.length) rfl rfl (by omega) (by omega) (fun _ => rfl) ?_|fail)<;>(try conv=>whnf))
        all_goals (refine congrArg (fun x => AV.tup [.agg [x], .agg (bunE L[i]), .bool true]) ?_; unfold lstE; congr 1)
        all_goals first | (simp [bunE, i64, lstE]; done) | (simp; omega)
    · rw [hnone (fun j hj => hg j (by omega) hj)]
      (try conv=>whnf)<;>repeat'((first|exact sNo|refine sT ?_|refine sF ?_|((first|refine sD ?_ ?_|refine sE ?_ ?_|refine sN ?_ ?_|refine sG ?_ ?_)<;>intro ht<;>(first|(cases ht;done)|skip))|refine wr ?_|refine ix ?_|refine ati ?_|refine row ?_|refine app ?_|refine dr ?_|refine VAnd.mk ?_ ?_|exact VJe.mk rfl ⟨rfl,rfl⟩|refine .inl (slM ?_)|refine .inl (slO ?_)|refine slM ?_|refine slO ?_|refine slN ?_|refine slS ?_|refine swB (swM fun C hC=>?_)|refine sj ?_|refine .inl (sv ?_)|refine sv ?_|refine cl ?_|refine s3 ?_|refine az ?_|refine rm ?_|refine VBs.own ?_|fail)<;>(try conv=>whnf))
      all_goals rfl
end Go.Proofs.YtlghgdgpbnlpmaaGreat
/- What is proved: chapter 23's law function GatePlays answers true. Conditions: none. -/
namespace Go.Proofs.YtlghgdgpbnlpmaaGreat
open Go.RowKit
set_option linter.unusedVariables false
set_option linter.unusedSimpArgs false
set_option maxRecDepth 100000
set_option maxHeartbeats 16000000
theorem first_a : AFnP Tryz.prog 26 [] (.agg (bunE firstB)) := by
  refine afp ty_ok Tryz.call26 Tryz.func26 ?_
  (try conv=>whnf)<;>repeat'((first|exact sNo|refine sT ?_|refine sF ?_|((first|refine sD ?_ ?_|refine sE ?_ ?_|refine sN ?_ ?_|refine sG ?_ ?_)<;>intro ht<;>(first|(cases ht;done)|skip))|refine wr ?_|refine ix ?_|refine ati ?_|refine row ?_|refine app ?_|refine dr ?_|refine VBs.own ?_|fail)<;>(try conv=>whnf))
  all_goals rfl
/-- a gate that is new -/
theorem AFn.nil1 {P : Program} {f : FuncId} {args : List AV} {id T : Nat} {R : AV → List AP → Prop} (ha : AFn P f args [.blk id [.lst 0 []] T] R) : AFn P f args [.blk id [.nils] T] R := by
  intro E vs L hnx hvs hh
  refine ha E vs L hnx hvs ?_
  simp only [VH, VP, VL, V] at hh ⊢
  obtain ⟨q, L', rfl, ⟨h3, us, rfl, u, us', rfl, rfl, rfl⟩, rfl⟩ := hh
  exact ⟨_, _, rfl, ⟨h3, _, rfl, _, _, rfl, ⟨none, 0, 0, rfl, rfl, Nat.le_refl _, Nat.zero_le _, by simp only [VR]⟩, rfl⟩, rfl⟩
theorem ins_nil (b : Bun) : insG b [] = [b] := by unfold insG; simp
theorem fnd_nil (b : Bun) : fndG b [] = false := rfl
theorem add_nil {b : Bun} (h : rightB b = true) : addG [] b = ([b], true, 0) := by rw [addG_in h (fnd_nil b) (by decide), ins_nil]
theorem next_first : nextG [firstB] (fun _ => 0) = ([], firstB, true) := by
  have hr := firstB_right
  have h1 : knownB firstB (fun _ => 0) = false := by unfold knownB; rw [hr]; rfl
  have h2 : readyB firstB (fun _ => 0) = true := by unfold readyB; rw [hr]; rfl
  have h3 : restG [firstB] (fun _ => 0) = [firstB] := by simp [restG, h1]
  rw [nextG_some (i := 0) (by rw [h3]; decide) (by simp only [h3]; exact h2) (fun j hj _ => by omega)]
  simp only [h3]
  rfl
theorem awake_a : AFnP Tryz.prog 12 [] (.bool true) := by
  have r0 := first_a
  have r1 := gadd_o [] firstB GI.nil (by decide) firstB_Sm
  rw [add_nil firstB_right] at r1
  have r1 := AFn.nil1 r1
  have hG : GI [firstB] := by have := GI.nil.add firstB_Sm; rw [add_nil firstB_right] at this; exact this
  have r2 := gnext_o [firstB] (fun _ => 0) hG (by decide)
  rw [next_first] at r2
  have r3 := rsame_B firstB firstB_Sm
  have r4 := glen_a []
  dsimp only at r1 r2
  unfold outE at r2
  dsimp only at r2
  clear hG
  generalize firstB = b at *
  refine afp ty_ok Tryz.call12 Tryz.func12 ?_
  (try conv=>whnf)<;>repeat'((first|(refine pr ?_;(try conv=>whnf);(fail_if_success (show False)))|exact sNo|refine sT ?_|refine sF ?_|((first|refine sD ?_ ?_|refine sE ?_ ?_|refine sN ?_ ?_|refine sG ?_ ?_)<;>intro ht<;>(first|(cases ht;done)|skip))|refine wr ?_|refine ix ?_|refine ati ?_|refine row ?_|refine app ?_|refine dr ?_|refine VBs.own ?_|refine cp r0 ?_|refine cf r0 ?_|refine cg r0 ?_|refine cz r0 ?_|(refine co r1 ?_;rintro r h' ⟨rfl,rfl⟩)|(refine co r2 ?_;rintro r h' ⟨rfl,rfl⟩)|refine cp r3 ?_|refine cf r3 ?_|refine cg r3 ?_|refine cz r3 ?_|refine cp r4 ?_|refine cf r4 ?_|refine cg r4 ?_|refine cz r4 ?_|fail)<;>(try conv=>whnf))
  all_goals rfl
theorem alike_a (l : List Bun) (hl : l.length ≤ 1000000) (hS : ∀ b ∈ l, SmB b) : AFnP Tryz.prog 21 [lstE bunE l, lstE bunE l] (.bool true) := by
  refine afp ty_ok Tryz.call21 Tryz.func21 ?_
  (try conv=>whnf)<;>repeat'((first|exact sNo|refine sT ?_|refine sF ?_|((first|refine sD ?_ ?_|refine sE ?_ ?_|refine sN ?_ ?_|refine sG ?_ ?_)<;>intro ht<;>(first|(cases ht;done)|skip))|refine wr ?_|refine ix ?_|refine ati ?_|refine row ?_|refine app ?_|refine dr ?_|refine VBs.own ?_|fail)<;>(try conv=>whnf))
  refine VLp.mk ⟨[], [], [13], fun k vs h => ∃ i : Nat, vs = [i64 i] ∧ h = [] ∧ i ≤ l.length ∧ k = l.length - i, l.length, ?_⟩
  conv => whnf
  refine ⟨⟨0, rfl, rfl, by omega, by omega⟩, ?_⟩
  rintro k vs h ⟨i, rfl, rfl, hi, rfl⟩
  by_cases hin : i < l.length
  · have r1 := rsame_B l[i] (hS _ (List.getElem_mem hin))
    (try conv=>whnf)<;>repeat'((first|exact sNo|refine sT ?_|refine sF ?_|((first|refine sD ?_ ?_|refine sE ?_ ?_|refine sN ?_ ?_|refine sG ?_ ?_)<;>intro ht<;>(first|(cases ht;done)|skip))|refine wr ?_|refine ix ?_|refine ati ?_|refine row ?_|refine app ?_|refine dr ?_|refine VBs.own ?_|refine cf r1 ?_|refine cg r1 ?_|refine cz r1 ?_|fail)<;>(try conv=>whnf))
    all_goals exact VRd.mk rfl ⟨l.length - (i + 1), by omega, i + 1, rfl, rfl, by omega, rfl⟩
  · (try conv=>whnf)<;>repeat'((first|exact sNo|refine sT ?_|refine sF ?_|((first|refine sD ?_ ?_|refine sE ?_ ?_|refine sN ?_ ?_|refine sG ?_ ?_)<;>intro ht<;>(first|(cases ht;done)|skip))|refine wr ?_|refine ix ?_|refine ati ?_|refine row ?_|refine app ?_|refine dr ?_|refine VBs.own ?_|fail)<;>(try conv=>whnf))
    all_goals rfl
abbrev Act23 := Int × Bun × (Int → Int)
def actE (a : Act23) : List AV := [.int .u8 a.1, i64 a.2.1.dc, i64 a.2.1.af, i64 a.2.1.la, i64 (a.2.1.dp 0), i64 (a.2.1.dp 1), i64 (a.2.1.dp 2), i64 (a.2.1.dp 3), lstE entE a.2.1.t.es, lstE kidRow a.2.1.t.ks, lstE spE a.2.1.c, i64 (a.2.2 0), i64 (a.2.2 1), i64 (a.2.2 2), i64 (a.2.2 3)]
theorem nextG_false {l : List Bun} {v : Int → Int} (h : (nextG l v).2.2 = false) : (nextG l v).2.1 = zeroB := by
  unfold nextG at *
  split at h
  · cases h
  · rfl
end Go.Proofs.YtlghgdgpbnlpmaaGreat
