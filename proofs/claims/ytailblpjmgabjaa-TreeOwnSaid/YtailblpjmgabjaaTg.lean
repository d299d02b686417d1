/- What is proved: what entries, Empty, right, Right of package tree answer. Conditions: none. -/
import Derived.Test.YtailblpjmgabjaaTf
namespace Go.Proofs.Ytailblpjmgabjaa
open Go.RowKit
set_option linter.unusedVariables false
set_option linter.unusedSimpArgs false
set_option maxRecDepth 100000
set_option maxHeartbeats 16000000
def kidE (x : ByteArray × Tr8) : List AV := [.str x.1, lstE entE x.2.es, lstE kidRow x.2.ks]
theorem kidRow_fun : kidRow = kidE := funext kidRow_eq
theorem goodE_iff {l : List Ent8} {i : Nat} (h : i < l.length) : goodE l i = true ↔ ((okDot l[i].1 = true ∧ l[i].2.1.size ≤ 30 ∧ l[i].2.2 ≤ 1099511627776 ∧ -1099511627776 ≤ l[i].2.2) ∧ (i = 0 ∨ ltDot l[i - 1].1 l[i].1 = true)) := by
  unfold goodE okEnt
  rw [List.getElem?_eq_getElem h, List.getElem?_eq_getElem (show i - 1 < l.length by omega)]
  simp only [Bool.and_eq_true, Bool.or_eq_true, decide_eq_true_eq]
theorem entsOk_true {l : List Ent8} (h : ∀ i, i < l.length → goodE l i = true) : entsOk l = true := by
  unfold entsOk; rw [List.all_eq_true]; intro i hi; exact h i (List.mem_range.1 hi)
theorem entsOk_false {l : List Ent8} {i : Nat} (hi : i < l.length) (h : ¬ goodE l i = true) : entsOk l = false := by
  unfold entsOk; rw [List.all_eq_false]; exact ⟨i, List.mem_range.2 hi, h⟩
theorem entries_a (l : List Ent8) (hn : l.length ≤ 1000000) : AFnP Try.prog 63 [lstE entE l] (.bool (entsOk l)) := by
  refine afnp_in ty_ok Try.call63 Try.func63 rfl rfl (by decide +kernel) ?_
  (try conv=>whnf)<;>repeat'((first|exact sNo|refine sT ?_|refine sF ?_|((first|refine sD ?_ ?_|refine sE ?_ ?_|refine sN ?_ ?_|refine sG ?_ ?_)<;>intro ht<;>(first|(cases ht;done)|skip))|refine wr ?_|refine ix ?_|refine ati ?_|refine row ?_|refine app ?_|refine dr ?_|refine VAnd.mk ?_ ?_|exact VJe.mk rfl ⟨rfl,rfl⟩|refine .inl (slM ?_)|refine .inl (slO ?_)|refine slM ?_|refine slO ?_|refine slN ?_|refine slS ?_|refine swB (swM fun C hC=>?_)|refine sj ?_|refine .inl (sv ?_)|refine sv ?_|refine cl ?_|refine s3 ?_|refine az ?_|refine rm ?_|refine VBs.own ?_|fail)<;>(try conv=>whnf))
  refine VLp.mk ⟨[], [], [7], fun k vs h => ∃ i : Nat, vs = [i64 i] ∧ i ≤ l.length ∧ k = l.length - i ∧ h = [] ∧ ∀ j, j < i → goodE l j = true, l.length, ?_⟩
  conv => whnf
  refine ⟨⟨0, rfl, by omega, by omega, rfl, by omega⟩, ?_⟩
  rintro k vs h ⟨i, rfl, hi, rfl, rfl, hg⟩
  by_cases hin : i < l.length
  · have hgi := goodE_iff hin
    have d1 := dright_a l[i].1
    generalize okDot l[i].1 = od at *
    have fin : ∀ {q : Bool}, (q = false → ¬ goodE l i = true) → q = false → AV.bool false = AV.bool (entsOk l) := fun h1 h2 => congrArg AV.bool (entsOk_false hin (h1 h2)).symm
    rcases Nat.eq_zero_or_pos i with h0 | h0
    · cases od
      · (try conv=>whnf)<;>repeat'((first|exact sNo|refine sT ?_|refine sF ?_|((first|refine sD ?_ ?_|refine sE ?_ ?_|refine sN ?_ ?_|refine sG ?_ ?_)<;>intro ht<;>(first|(cases ht;done)|skip))|refine wr ?_|refine ix ?_|refine ati ?_|refine row ?_|refine app ?_|refine dr ?_|refine VAnd.mk ?_ ?_|exact VJe.mk rfl ⟨rfl,rfl⟩|refine .inl (slM ?_)|refine .inl (slO ?_)|refine slM ?_|refine slO ?_|refine slN ?_|refine slS ?_|refine swB (swM fun C hC=>?_)|refine sj ?_|refine .inl (sv ?_)|refine sv ?_|refine cl ?_|refine s3 ?_|refine az ?_|refine rm ?_|refine VBs.own ?_|refine cf d1 ?_|refine cg d1 ?_|refine cz d1 ?_|fail)<;>(try conv=>whnf))
        all_goals exact congrArg AV.bool (entsOk_false hin fun hh => by have := (hgi.1 hh).1.1; cases this).symm
      · (try conv=>whnf)<;>repeat'((first|exact sNo|refine sT ?_|refine sF ?_|((first|refine sD ?_ ?_|refine sE ?_ ?_|refine sN ?_ ?_|refine sG ?_ ?_)<;>intro ht<;>(first|(cases ht;done)|skip))|refine wr ?_|refine ix ?_|refine ati ?_|refine row ?_|refine app ?_|refine dr ?_|refine VAnd.mk ?_ ?_|exact VJe.mk rfl ⟨rfl,rfl⟩|refine .inl (slM ?_)|refine .inl (slO ?_)|refine slM ?_|refine slO ?_|refine slN ?_|refine slS ?_|refine swB (swM fun C hC=>?_)|refine sj ?_|refine .inl (sv ?_)|refine sv ?_|refine cl ?_|refine s3 ?_|refine az ?_|refine rm ?_|refine VBs.own ?_|refine cf d1 ?_|refine cg d1 ?_|refine cz d1 ?_|fail)<;>(try conv=>whnf))
        all_goals first
          | exact congrArg AV.bool (entsOk_false hin fun hh => by have := (hgi.1 hh).1; omega).symm
          | exact VRd.mk rfl ⟨l.length - (i + 1), by omega, i + 1, rfl, by omega, rfl, rfl, fun j hj => by rcases Nat.lt_succ_iff_lt_or_eq.1 hj with h | rfl; exact hg j h; exact hgi.2 ⟨⟨rfl, by omega, by omega, by omega⟩, .inl h0⟩⟩
    · obtain ⟨i0, hi0⟩ : ∃ j, i = j + 1 := ⟨i - 1, by omega⟩
      have hj : (i : Int) - 1 = (i0 : Int) := by omega
      have hi1 : i - 1 = i0 := by omega
      simp only [hi1] at hgi
      have d2 := dcmp_a (l[i0]'(by omega)).1 l[i].1
      have hlt := cmpD_lt (l[i0]'(by omega)).1 l[i].1
      generalize ltDot (l[i0]'(by omega)).1 l[i].1 = lt at *
      generalize cmpD (l[i0]'(by omega)).1 l[i].1 = c at *
      cases od
      · (try conv=>whnf)<;>repeat'((first|exact sNo|refine sT ?_|refine sF ?_|((first|refine sD ?_ ?_|refine sE ?_ ?_|refine sN ?_ ?_|refine sG ?_ ?_)<;>intro ht<;>(first|(cases ht;done)|skip))|refine wr ?_|refine ix ?_|refine ati ?_|refine row ?_|refine app ?_|refine dr ?_|refine VAnd.mk ?_ ?_|exact VJe.mk rfl ⟨rfl,rfl⟩|refine .inl (slM ?_)|refine .inl (slO ?_)|refine slM ?_|refine slO ?_|refine slN ?_|refine slS ?_|refine swB (swM fun C hC=>?_)|refine sj ?_|refine .inl (sv ?_)|refine sv ?_|refine cl ?_|refine s3 ?_|refine az ?_|refine rm ?_|refine VBs.own ?_|refine cf d1 ?_|refine cg d1 ?_|refine cz d1 ?_|refine cf d2 ?_|refine cg d2 ?_|refine cz d2 ?_|fail)<;>(try conv=>whnf))
        all_goals exact congrArg AV.bool (entsOk_false hin fun hh => by have := (hgi.1 hh).1.1; cases this).symm
      · cases lt
        all_goals simp only [Bool.false_eq_true, iff_false, iff_true] at hlt
        · (try conv=>whnf)<;>repeat'((first|exact sNo|refine sT ?_|refine sF ?_|((first|refine sD ?_ ?_|refine sE ?_ ?_|refine sN ?_ ?_|refine sG ?_ ?_)<;>intro ht<;>(first|(cases ht;done)|skip))|refine wr ?_|refine ix ?_|refine ati ?_|refine row ?_|refine app ?_|refine dr ?_|refine VAnd.mk ?_ ?_|exact VJe.mk rfl ⟨rfl,rfl⟩|refine .inl (slM ?_)|refine .inl (slO ?_)|refine slM ?_|refine slO ?_|refine slN ?_|refine slS ?_|refine swB (swM fun C hC=>?_)|refine sj ?_|refine .inl (sv ?_)|refine sv ?_|refine cl ?_|refine s3 ?_|refine az ?_|refine rm ?_|refine VBs.own ?_|refine cf d1 ?_|refine cg d1 ?_|refine cz d1 ?_|refine cf d2 ?_|refine cg d2 ?_|refine cz d2 ?_|fail)<;>(try conv=>whnf))
          all_goals exact congrArg AV.bool (entsOk_false hin fun hh => by rcases (hgi.1 hh).2 with h | h; omega; cases h).symm
        · (try conv=>whnf)<;>repeat'((first|exact sNo|refine sT ?_|refine sF ?_|((first|refine sD ?_ ?_|refine sE ?_ ?_|refine sN ?_ ?_|refine sG ?_ ?_)<;>intro ht<;>(first|(cases ht;done)|skip))|refine wr ?_|refine ix ?_|refine ati ?_|refine row ?_|refine app ?_|refine dr ?_|refine VAnd.mk ?_ ?_|exact VJe.mk rfl ⟨rfl,rfl⟩|refine .inl (slM ?_)|refine .inl (slO ?_)|refine slM ?_|refine slO ?_|refine slN ?_|refine slS ?_|refine swB (swM fun C hC=>?_)|refine sj ?_|refine .inl (sv ?_)|refine sv ?_|refine cl ?_|refine s3 ?_|refine az ?_|refine rm ?_|refine VBs.own ?_|refine cf d1 ?_|refine cg d1 ?_|refine cz d1 ?_|refine cf d2 ?_|refine cg d2 ?_|refine cz d2 ?_|fail)<;>(try conv=>whnf))
          all_goals first
            | exact congrArg AV.bool (entsOk_false hin fun hh => by have := (hgi.1 hh).1; omega).symm
            | exact VRd.mk rfl ⟨l.length - (i + 1), by omega, i + 1, rfl, by omega, rfl, rfl, fun j hj => by rcases Nat.lt_succ_iff_lt_or_eq.1 hj with h | rfl; exact hg j h; exact hgi.2 ⟨⟨rfl, by omega, by omega, by omega⟩, .inr rfl⟩⟩
  · (try conv=>whnf)<;>repeat'((first|exact sNo|refine sT ?_|refine sF ?_|((first|refine sD ?_ ?_|refine sE ?_ ?_|refine sN ?_ ?_|refine sG ?_ ?_)<;>intro ht<;>(first|(cases ht;done)|skip))|refine wr ?_|refine ix ?_|refine ati ?_|refine row ?_|refine app ?_|refine dr ?_|refine VAnd.mk ?_ ?_|exact VJe.mk rfl ⟨rfl,rfl⟩|refine .inl (slM ?_)|refine .inl (slO ?_)|refine slM ?_|refine slO ?_|refine slN ?_|refine slS ?_|refine swB (swM fun C hC=>?_)|refine sj ?_|refine .inl (sv ?_)|refine sv ?_|refine cl ?_|refine s3 ?_|refine az ?_|refine rm ?_|refine VBs.own ?_|fail)<;>(try conv=>whnf))
    exact congrArg AV.bool (entsOk_true fun j hj => hg j (by omega)).symm
theorem empty_a (t : Tr8) : AFnP Try.prog 16 [.agg [lstE entE t.es, lstE kidRow t.ks]] (.bool (emptyT t)) := by
  refine afnp_in ty_ok Try.call16 Try.func16 rfl rfl (by decide +kernel) ?_
  unfold emptyT
  rcases t with ⟨es, ks⟩
  simp only [Tr8.es, Tr8.ks]
  rcases es with _ | ⟨e, es⟩
  · have hl : ([] : List Ent8).length = 0 := rfl
    by_cases hk : ks.length = 0
    · (try conv=>whnf)<;>repeat'((first|exact sNo|refine sT ?_|refine sF ?_|((first|refine sD ?_ ?_|refine sE ?_ ?_|refine sN ?_ ?_|refine sG ?_ ?_)<;>intro ht<;>(first|(cases ht;done)|skip))|refine wr ?_|refine ix ?_|refine ati ?_|refine row ?_|refine app ?_|refine dr ?_|refine VAnd.mk ?_ ?_|exact VJe.mk rfl ⟨rfl,rfl⟩|refine .inl (slM ?_)|refine .inl (slO ?_)|refine slM ?_|refine slO ?_|refine slN ?_|refine slS ?_|refine swB (swM fun C hC=>?_)|refine sj ?_|refine .inl (sv ?_)|refine sv ?_|refine cl ?_|refine s3 ?_|refine az ?_|refine rm ?_|refine VBs.own ?_|fail)<;>(try conv=>whnf))
      all_goals simp [hk]
    · (try conv=>whnf)<;>repeat'((first|exact sNo|refine sT ?_|refine sF ?_|((first|refine sD ?_ ?_|refine sE ?_ ?_|refine sN ?_ ?_|refine sG ?_ ?_)<;>intro ht<;>(first|(cases ht;done)|skip))|refine wr ?_|refine ix ?_|refine ati ?_|refine row ?_|refine app ?_|refine dr ?_|refine VAnd.mk ?_ ?_|exact VJe.mk rfl ⟨rfl,rfl⟩|refine .inl (slM ?_)|refine .inl (slO ?_)|refine slM ?_|refine slO ?_|refine slN ?_|refine slS ?_|refine swB (swM fun C hC=>?_)|refine sj ?_|refine .inl (sv ?_)|refine sv ?_|refine cl ?_|refine s3 ?_|refine az ?_|refine rm ?_|refine VBs.own ?_|fail)<;>(try conv=>whnf))
      all_goals simp [hk]
  · have hl : (e :: es).length = es.length + 1 := rfl
    (try conv=>whnf)<;>repeat'((first|exact sNo|refine sT ?_|refine sF ?_|((first|refine sD ?_ ?_|refine sE ?_ ?_|refine sN ?_ ?_|refine sG ?_ ?_)<;>intro ht<;>(first|(cases ht;done)|skip))|refine wr ?_|refine ix ?_|refine ati ?_|refine row ?_|refine app ?_|refine dr ?_|refine VAnd.mk ?_ ?_|exact VJe.mk rfl ⟨rfl,rfl⟩|refine .inl (slM ?_)|refine .inl (slO ?_)|refine slM ?_|refine slO ?_|refine slN ?_|refine slS ?_|refine swB (swM fun C hC=>?_)|refine sj ?_|refine .inl (sv ?_)|refine sv ?_|refine cl ?_|refine s3 ?_|refine az ?_|refine rm ?_|refine VBs.own ?_|fail)<;>(try conv=>whnf))
    all_goals simp
theorem rightT_no {d : Nat} {t : Tr8} {i : Nat} (hi : i < t.ks.length) (h : goodK (rightT d) t.ks i = false) : rightT (d + 1) t = false := by
  have : (List.range t.ks.length).all (goodK (rightT d) t.ks) = false := by rw [List.all_eq_false]; exact ⟨i, List.mem_range.2 hi, by rw [h]; decide⟩
  rw [rightT, this, Bool.and_false]
theorem rightT_yes {d : Nat} {t : Tr8} (he : entsOk t.es = true) (h : ∀ i, i < t.ks.length → goodK (rightT d) t.ks i = true) : rightT (d + 1) t = true := by
  have : (List.range t.ks.length).all (goodK (rightT d) t.ks) = true := by rw [List.all_eq_true]; intro i hi; exact h i (List.mem_range.1 hi)
  rw [rightT, he, this]; rfl
theorem goodK_eq {f : Tr8 → Bool} {ks : List (ByteArray × Tr8)} {i : Nat} (h : i < ks.length) : goodK f ks i = (okKey ks[i].1 && ((decide (i = 0) || ltKey ks[i - 1].1 ks[i].1) && (!emptyT ks[i].2 && f ks[i].2))) := by
  unfold goodK
  rw [List.getElem?_eq_getElem h, List.getElem?_eq_getElem (show i - 1 < ks.length by omega)]
theorem right_a : ∀ (d : Nat) (t : Tr8), d ≤ 100 → cntT t ≤ 1000000 → AFnP Try.prog 48 [.agg [lstE entE t.es, lstE kidRow t.ks], i64 (d : Int)] (.bool (rightT d t))
  | 0, t, hd, hc => by
    refine afnp_in ty_ok Try.call48 Try.func48 rfl rfl (by decide +kernel) ?_
    (try conv=>whnf)<;>repeat'((first|exact sNo|refine sT ?_|refine sF ?_|((first|refine sD ?_ ?_|refine sE ?_ ?_|refine sN ?_ ?_|refine sG ?_ ?_)<;>intro ht<;>(first|(cases ht;done)|skip))|refine wr ?_|refine ix ?_|refine ati ?_|refine row ?_|refine app ?_|refine dr ?_|refine VAnd.mk ?_ ?_|exact VJe.mk rfl ⟨rfl,rfl⟩|refine .inl (slM ?_)|refine .inl (slO ?_)|refine slM ?_|refine slO ?_|refine slN ?_|refine slS ?_|refine swB (swM fun C hC=>?_)|refine sj ?_|refine .inl (sv ?_)|refine sv ?_|refine cl ?_|refine s3 ?_|refine az ?_|refine rm ?_|refine VBs.own ?_|fail)<;>(try conv=>whnf))
    all_goals rfl
  | d + 1, t, hd, hc => by
    have ih := right_a d
    obtain ⟨D, hD⟩ : ∃ D : Int, D = ((d + 1 : Nat) : Int) := ⟨_, rfl⟩
    rw [← hD, kidRow_fun]
    refine afnp_in ty_ok Try.call48 Try.func48 rfl rfl (by decide +kernel) ?_
    have hcnt := cntT_eq t
    have re := entries_a t.es (by omega)
    cases he : entsOk t.es
    · rw [he] at re
      (try conv=>whnf)<;>repeat'((first|exact sNo|refine sT ?_|refine sF ?_|((first|refine sD ?_ ?_|refine sE ?_ ?_|refine sN ?_ ?_|refine sG ?_ ?_)<;>intro ht<;>(first|(cases ht;done)|skip))|refine wr ?_|refine ix ?_|refine ati ?_|refine row ?_|refine app ?_|refine dr ?_|refine VAnd.mk ?_ ?_|exact VJe.mk rfl ⟨rfl,rfl⟩|refine .inl (slM ?_)|refine .inl (slO ?_)|refine slM ?_|refine slO ?_|refine slN ?_|refine slS ?_|refine swB (swM fun C hC=>?_)|refine sj ?_|refine .inl (sv ?_)|refine sv ?_|refine cl ?_|refine s3 ?_|refine az ?_|refine rm ?_|refine VBs.own ?_|refine cf re ?_|refine cg re ?_|refine cz re ?_|fail)<;>(try conv=>whnf))
      all_goals (refine congrArg AV.bool ?_; rw [rightT, he]; rfl)
    · rw [he] at re
      (try conv=>whnf)<;>repeat'((first|exact sNo|refine sT ?_|refine sF ?_|((first|refine sD ?_ ?_|refine sE ?_ ?_|refine sN ?_ ?_|refine sG ?_ ?_)<;>intro ht<;>(first|(cases ht;done)|skip))|refine wr ?_|refine ix ?_|refine ati ?_|refine row ?_|refine app ?_|refine dr ?_|refine VAnd.mk ?_ ?_|exact VJe.mk rfl ⟨rfl,rfl⟩|refine .inl (slM ?_)|refine .inl (slO ?_)|refine slM ?_|refine slO ?_|refine slN ?_|refine slS ?_|refine swB (swM fun C hC=>?_)|refine sj ?_|refine .inl (sv ?_)|refine sv ?_|refine cl ?_|refine s3 ?_|refine az ?_|refine rm ?_|refine VBs.own ?_|refine cf re ?_|refine cg re ?_|refine cz re ?_|fail)<;>(try conv=>whnf))
      refine VLp.mk ⟨[], [2], [18], fun k vs h => ∃ i : Nat, vs = [i64 i] ∧ h = [.blk 0 [lstE entE t.es, lstE kidE t.ks] 25] ∧ i ≤ t.ks.length ∧ k = t.ks.length - i ∧ ∀ j, j < i → goodK (rightT d) t.ks j = true, t.ks.length, ?_⟩
      conv => whnf
      refine ⟨⟨0, rfl, rfl, by omega, by omega, by omega⟩, ?_⟩
      rintro k vs h ⟨i, rfl, rfl, hi, rfl, hg⟩
      by_cases hin : i < t.ks.length
      · have hgi := goodK_eq (f := rightT d) hin
        have hcx := cntK_mem (List.getElem_mem hin)
        have r1 := key_a t.ks[i].1
        have r2 := empty_a t.ks[i].2
        have r3 := ih t.ks[i].2 (by omega) (by omega)
        rw [show (d : Int) = D - 1 by omega] at r3
        generalize okKey t.ks[i].1 = b1 at *
        generalize emptyT t.ks[i].2 = b2 at *
        generalize rightT d t.ks[i].2 = b3 at *
        have no : goodK (rightT d) t.ks i = false → AV.bool false = AV.bool (rightT (d + 1) t) := fun h => congrArg AV.bool (rightT_no hin h).symm
        have yes : goodK (rightT d) t.ks i = true → ∀ j, j < i + 1 → goodK (rightT d) t.ks j = true := fun h j hj => by rcases Nat.lt_succ_iff_lt_or_eq.1 hj with h' | rfl; exact hg j h'; exact h
        rcases Nat.eq_zero_or_pos i with h0 | h0
        · have hz : decide (i = 0) = true := decide_eq_true h0
          rw [hz, Bool.true_or, Bool.true_and] at hgi
          cases b1
          · (try conv=>whnf)<;>repeat'((first|exact sNo|refine sT ?_|refine sF ?_|((first|refine sD ?_ ?_|refine sE ?_ ?_|refine sN ?_ ?_|refine sG ?_ ?_)<;>intro ht<;>(first|(cases ht;done)|skip))|refine wr ?_|refine ix ?_|refine ati ?_|refine row ?_|refine app ?_|refine dr ?_|refine VAnd.mk ?_ ?_|exact VJe.mk rfl ⟨rfl,rfl⟩|refine .inl (slM ?_)|refine .inl (slO ?_)|refine slM ?_|refine slO ?_|refine slN ?_|refine slS ?_|refine swB (swM fun C hC=>?_)|refine sj ?_|refine .inl (sv ?_)|refine sv ?_|refine cl ?_|refine s3 ?_|refine az ?_|refine rm ?_|refine VBs.own ?_|refine cf r1 ?_|refine cg r1 ?_|refine cz r1 ?_|fail)<;>(try conv=>whnf))
            all_goals exact no hgi
          · cases b2
            · cases b3
              · (try conv=>whnf)<;>repeat'((first|exact sNo|refine sT ?_|refine sF ?_|((first|refine sD ?_ ?_|refine sE ?_ ?_|refine sN ?_ ?_|refine sG ?_ ?_)<;>intro ht<;>(first|(cases ht;done)|skip))|refine wr ?_|refine ix ?_|refine ati ?_|refine row ?_|refine app ?_|refine dr ?_|refine VAnd.mk ?_ ?_|exact VJe.mk rfl ⟨rfl,rfl⟩|refine .inl (slM ?_)|refine .inl (slO ?_)|refine slM ?_|refine slO ?_|refine slN ?_|refine slS ?_|refine swB (swM fun C hC=>?_)|refine sj ?_|refine .inl (sv ?_)|refine sv ?_|refine cl ?_|refine s3 ?_|refine az ?_|refine rm ?_|refine VBs.own ?_|refine cf r1 ?_|refine cg r1 ?_|refine cz r1 ?_|refine cf r2 ?_|refine cg r2 ?_|refine cz r2 ?_|refine cf r3 ?_|refine cg r3 ?_|refine cz r3 ?_|fail)<;>(try conv=>whnf))
                all_goals exact no hgi
              · (try conv=>whnf)<;>repeat'((first|exact sNo|refine sT ?_|refine sF ?_|((first|refine sD ?_ ?_|refine sE ?_ ?_|refine sN ?_ ?_|refine sG ?_ ?_)<;>intro ht<;>(first|(cases ht;done)|skip))|refine wr ?_|refine ix ?_|refine ati ?_|refine row ?_|refine app ?_|refine dr ?_|refine VAnd.mk ?_ ?_|exact VJe.mk rfl ⟨rfl,rfl⟩|refine .inl (slM ?_)|refine .inl (slO ?_)|refine slM ?_|refine slO ?_|refine slN ?_|refine slS ?_|refine swB (swM fun C hC=>?_)|refine sj ?_|refine .inl (sv ?_)|refine sv ?_|refine cl ?_|refine s3 ?_|refine az ?_|refine rm ?_|refine VBs.own ?_|refine cf r1 ?_|refine cg r1 ?_|refine cz r1 ?_|refine cf r2 ?_|refine cg r2 ?_|refine cz r2 ?_|refine cf r3 ?_|refine cg r3 ?_|refine cz r3 ?_|fail)<;>(try conv=>whnf))
                all_goals exact VRd.mk rfl ⟨t.ks.length - (i + 1), by omega, i + 1, rfl, rfl, by omega, rfl, yes hgi⟩
            · (try conv=>whnf)<;>repeat'((first|exact sNo|refine sT ?_|refine sF ?_|((first|refine sD ?_ ?_|refine sE ?_ ?_|refine sN ?_ ?_|refine sG ?_ ?_)<;>intro ht<;>(first|(cases ht;done)|skip))|refine wr ?_|refine ix ?_|refine ati ?_|refine row ?_|refine app ?_|refine dr ?_|refine VAnd.mk ?_ ?_|exact VJe.mk rfl ⟨rfl,rfl⟩|refine .inl (slM ?_)|refine .inl (slO ?_)|refine slM ?_|refine slO ?_|refine slN ?_|refine slS ?_|refine swB (swM fun C hC=>?_)|refine sj ?_|refine .inl (sv ?_)|refine sv ?_|refine cl ?_|refine s3 ?_|refine az ?_|refine rm ?_|refine VBs.own ?_|refine cf r1 ?_|refine cg r1 ?_|refine cz r1 ?_|refine cf r2 ?_|refine cg r2 ?_|refine cz r2 ?_|refine cf r3 ?_|refine cg r3 ?_|refine cz r3 ?_|fail)<;>(try conv=>whnf))
              all_goals exact no hgi
        · obtain ⟨i0, hi0⟩ : ∃ j, i = j + 1 := ⟨i - 1, by omega⟩
          have hj : (i : Int) - 1 = (i0 : Int) := by omega
          have hi1 : i - 1 = i0 := by omega
          have hz : decide (i = 0) = false := decide_eq_false (by omega)
          simp only [hi1] at hgi
          rw [hz, Bool.false_or] at hgi
          unfold ltKey at hgi
          cases b1
          · (try conv=>whnf)<;>repeat'((first|exact sNo|refine sT ?_|refine sF ?_|((first|refine sD ?_ ?_|refine sE ?_ ?_|refine sN ?_ ?_|refine sG ?_ ?_)<;>intro ht<;>(first|(cases ht;done)|skip))|refine wr ?_|refine ix ?_|refine ati ?_|refine row ?_|refine app ?_|refine dr ?_|refine VAnd.mk ?_ ?_|exact VJe.mk rfl ⟨rfl,rfl⟩|refine .inl (slM ?_)|refine .inl (slO ?_)|refine slM ?_|refine slO ?_|refine slN ?_|refine slS ?_|refine swB (swM fun C hC=>?_)|refine sj ?_|refine .inl (sv ?_)|refine sv ?_|refine cl ?_|refine s3 ?_|refine az ?_|refine rm ?_|refine VBs.own ?_|refine cf r1 ?_|refine cg r1 ?_|refine cz r1 ?_|fail)<;>(try conv=>whnf))
            all_goals exact no hgi
          · cases hl : Op.bytesLess (t.ks[i0]'(by omega)).1.toList t.ks[i].1.toList
            · rw [hl] at hgi
              have hl2 : (!Op.bytesLess (t.ks[i0]'(by omega)).1.toList t.ks[i].1.toList) = true := by rw [hl]; rfl
              (try conv=>whnf)<;>repeat'((first|exact sNo|refine sT ?_|refine sF ?_|((first|refine sD ?_ ?_|refine sE ?_ ?_|refine sN ?_ ?_|refine sG ?_ ?_)<;>intro ht<;>(first|(cases ht;done)|skip))|refine wr ?_|refine ix ?_|refine ati ?_|refine row ?_|refine app ?_|refine dr ?_|refine VAnd.mk ?_ ?_|exact VJe.mk rfl ⟨rfl,rfl⟩|refine .inl (slM ?_)|refine .inl (slO ?_)|refine slM ?_|refine slO ?_|refine slN ?_|refine slS ?_|refine swB (swM fun C hC=>?_)|refine sj ?_|refine .inl (sv ?_)|refine sv ?_|refine cl ?_|refine s3 ?_|refine az ?_|refine rm ?_|refine VBs.own ?_|refine cf r1 ?_|refine cg r1 ?_|refine cz r1 ?_|fail)<;>(try conv=>whnf))
              all_goals exact no hgi
            · rw [hl] at hgi
              have hl2 : (!Op.bytesLess (t.ks[i0]'(by omega)).1.toList t.ks[i].1.toList) = false := by rw [hl]; rfl
              cases b2
              · cases b3
                · (try conv=>whnf)<;>repeat'((first|exact sNo|refine sT ?_|refine sF ?_|((first|refine sD ?_ ?_|refine sE ?_ ?_|refine sN ?_ ?_|refine sG ?_ ?_)<;>intro ht<;>(first|(cases ht;done)|skip))|refine wr ?_|refine ix ?_|refine ati ?_|refine row ?_|refine app ?_|refine dr ?_|refine VAnd.mk ?_ ?_|exact VJe.mk rfl ⟨rfl,rfl⟩|refine .inl (slM ?_)|refine .inl (slO ?_)|refine slM ?_|refine slO ?_|refine slN ?_|refine slS ?_|refine swB (swM fun C hC=>?_)|refine sj ?_|refine .inl (sv ?_)|refine sv ?_|refine cl ?_|refine s3 ?_|refine az ?_|refine rm ?_|refine VBs.own ?_|refine cf r1 ?_|refine cg r1 ?_|refine cz r1 ?_|refine cf r2 ?_|refine cg r2 ?_|refine cz r2 ?_|refine cf r3 ?_|refine cg r3 ?_|refine cz r3 ?_|fail)<;>(try conv=>whnf))
                  all_goals exact no hgi
                · (try conv=>whnf)<;>repeat'((first|exact sNo|refine sT ?_|refine sF ?_|((first|refine sD ?_ ?_|refine sE ?_ ?_|refine sN ?_ ?_|refine sG ?_ ?_)<;>intro ht<;>(first|(cases ht;done)|skip))|refine wr ?_|refine ix ?_|refine ati ?_|refine row ?_|refine app ?_|refine dr ?_|refine VAnd.mk ?_ ?_|exact VJe.mk rfl ⟨rfl,rfl⟩|refine .inl (slM ?_)|refine .inl (slO ?_)|refine slM ?_|refine slO ?_|refine slN ?_|refine slS ?_|refine swB (swM fun C hC=>?_)|refine sj ?_|refine .inl (sv ?_)|refine sv ?_|refine cl ?_|refine s3 ?_|refine az ?_|refine rm ?_|refine VBs.own ?_|refine cf r1 ?_|refine cg r1 ?_|refine cz r1 ?_|refine cf r2 ?_|refine cg r2 ?_|refine cz r2 ?_|refine cf r3 ?_|refine cg r3 ?_|refine cz r3 ?_|fail)<;>(try conv=>whnf))
                  all_goals exact VRd.mk rfl ⟨t.ks.length - (i + 1), by omega, i + 1, rfl, rfl, by omega, rfl, yes hgi⟩
              · (try conv=>whnf)<;>repeat'((first|exact sNo|refine sT ?_|refine sF ?_|((first|refine sD ?_ ?_|refine sE ?_ ?_|refine sN ?_ ?_|refine sG ?_ ?_)<;>intro ht<;>(first|(cases ht;done)|skip))|refine wr ?_|refine ix ?_|refine ati ?_|refine row ?_|refine app ?_|refine dr ?_|refine VAnd.mk ?_ ?_|exact VJe.mk rfl ⟨rfl,rfl⟩|refine .inl (slM ?_)|refine .inl (slO ?_)|refine slM ?_|refine slO ?_|refine slN ?_|refine slS ?_|refine swB (swM fun C hC=>?_)|refine sj ?_|refine .inl (sv ?_)|refine sv ?_|refine cl ?_|refine s3 ?_|refine az ?_|refine rm ?_|refine VBs.own ?_|refine cf r1 ?_|refine cg r1 ?_|refine cz r1 ?_|refine cf r2 ?_|refine cg r2 ?_|refine cz r2 ?_|refine cf r3 ?_|refine cg r3 ?_|refine cz r3 ?_|fail)<;>(try conv=>whnf))
                all_goals exact no hgi
      · (try conv=>whnf)<;>repeat'((first|exact sNo|refine sT ?_|refine sF ?_|((first|refine sD ?_ ?_|refine sE ?_ ?_|refine sN ?_ ?_|refine sG ?_ ?_)<;>intro ht<;>(first|(cases ht;done)|skip))|refine wr ?_|refine ix ?_|refine ati ?_|refine row ?_|refine app ?_|refine dr ?_|refine VAnd.mk ?_ ?_|exact VJe.mk rfl ⟨rfl,rfl⟩|refine .inl (slM ?_)|refine .inl (slO ?_)|refine slM ?_|refine slO ?_|refine slN ?_|refine slS ?_|refine swB (swM fun C hC=>?_)|refine sj ?_|refine .inl (sv ?_)|refine sv ?_|refine cl ?_|refine s3 ?_|refine az ?_|refine rm ?_|refine VBs.own ?_|fail)<;>(try conv=>whnf))
        exact congrArg AV.bool (rightT_yes he fun j hj => hg j (by omega)).symm
theorem tright_a (t : Tr8) (hc : cntT t ≤ 1000000) : AFnP Try.prog 21 [.agg [lstE entE t.es, lstE kidRow t.ks]] (.bool (rightT 5 t)) := by
  refine afnp_in ty_ok Try.call21 Try.func21 rfl rfl (by decide +kernel) ?_
  have r : AFnP Try.prog 48 [.agg [lstE entE t.es, lstE kidRow t.ks], i64 5] (.bool (rightT 5 t)) := right_a 5 t (by omega) hc
  generalize rightT 5 t = b at *
  (try conv=>whnf)<;>repeat'((first|exact sNo|refine sT ?_|refine sF ?_|((first|refine sD ?_ ?_|refine sE ?_ ?_|refine sN ?_ ?_|refine sG ?_ ?_)<;>intro ht<;>(first|(cases ht;done)|skip))|refine wr ?_|refine ix ?_|refine ati ?_|refine row ?_|refine app ?_|refine dr ?_|refine VAnd.mk ?_ ?_|exact VJe.mk rfl ⟨rfl,rfl⟩|refine .inl (slM ?_)|refine .inl (slO ?_)|refine slM ?_|refine slO ?_|refine slN ?_|refine slS ?_|refine swB (swM fun C hC=>?_)|refine sj ?_|refine .inl (sv ?_)|refine sv ?_|refine cl ?_|refine s3 ?_|refine az ?_|refine rm ?_|refine VBs.own ?_|refine cf r ?_|refine cg r ?_|refine cz r ?_|fail)<;>(try conv=>whnf))
  all_goals rw [ht]
end Go.Proofs.Ytailblpjmgabjaa
