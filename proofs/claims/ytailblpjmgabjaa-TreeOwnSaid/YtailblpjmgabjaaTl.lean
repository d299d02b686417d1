/- What is proved: what Right of chapter 08's reference answers. Conditions: none. -/
import Derived.Test.YtailblpjmgabjaaTg
namespace Go.Proofs.Ytailblpjmgabjaa
open Go.RowKit
set_option linter.unusedVariables false
set_option linter.unusedSimpArgs false
set_option maxRecDepth 100000
set_option maxHeartbeats 16000000
theorem rentry_a (e : Ent8) : AFnP Try.prog 60 [.agg [i64 e.1.1, i64 e.1.2, .str e.2.1, i64 e.2.2]] (.bool (okEnt e)) := by
  refine afnp_in ty_ok Try.call60 Try.func60 rfl rfl (by decide +kernel) ?_
  have r := rdright_a e.1
  have h : okEnt e = (okDot e.1 && (decide (e.2.1.size ≤ 30) && (decide (e.2.2 ≤ 1099511627776) && decide (-1099511627776 ≤ e.2.2)))) := rfl
  rw [h]
  clear h
  generalize okDot e.1 = b at *
  cases b
  · (try conv=>whnf)<;>repeat'((first|exact sNo|refine sT ?_|refine sF ?_|((first|refine sD ?_ ?_|refine sE ?_ ?_|refine sN ?_ ?_|refine sG ?_ ?_)<;>intro ht<;>(first|(cases ht;done)|skip))|refine wr ?_|refine ix ?_|refine ati ?_|refine row ?_|refine app ?_|refine dr ?_|refine VAnd.mk ?_ ?_|exact VJe.mk rfl ⟨rfl,rfl⟩|refine .inl (slM ?_)|refine .inl (slO ?_)|refine slM ?_|refine slO ?_|refine slN ?_|refine slS ?_|refine swB (swM fun C hC=>?_)|refine sj ?_|refine .inl (sv ?_)|refine sv ?_|refine cl ?_|refine s3 ?_|refine az ?_|refine rm ?_|refine VBs.own ?_|refine cf r ?_|refine cg r ?_|refine cz r ?_|fail)<;>(try conv=>whnf))
    all_goals rfl
  · (try conv=>whnf)<;>repeat'((first|exact sNo|refine sT ?_|refine sF ?_|((first|refine sD ?_ ?_|refine sE ?_ ?_|refine sN ?_ ?_|refine sG ?_ ?_)<;>intro ht<;>(first|(cases ht;done)|skip))|refine wr ?_|refine ix ?_|refine ati ?_|refine row ?_|refine app ?_|refine dr ?_|refine VAnd.mk ?_ ?_|exact VJe.mk rfl ⟨rfl,rfl⟩|refine .inl (slM ?_)|refine .inl (slO ?_)|refine slM ?_|refine slO ?_|refine slN ?_|refine slS ?_|refine swB (swM fun C hC=>?_)|refine sj ?_|refine .inl (sv ?_)|refine sv ?_|refine cl ?_|refine s3 ?_|refine az ?_|refine rm ?_|refine VBs.own ?_|refine cf r ?_|refine cg r ?_|refine cz r ?_|fail)<;>(try conv=>whnf))
    all_goals (refine congrArg AV.bool ?_; rw [Bool.eq_iff_iff]; simp only [Bool.true_and, Bool.and_eq_true, decide_eq_true_eq, Bool.false_eq_true, false_iff, true_iff]; omega)
theorem goodE_eq {l : List Ent8} {i : Nat} (h : i < l.length) : goodE l i = (okEnt l[i] && (decide (i = 0) || ltDot l[i - 1].1 l[i].1)) := by
  unfold goodE
  rw [List.getElem?_eq_getElem h, List.getElem?_eq_getElem (show i - 1 < l.length by omega)]
theorem rightT_noE {d : Nat} {t : Tr8} (h : entsOk t.es = false) : rightT (d + 1) t = false := by rw [rightT, h]; rfl
theorem rright_a : ∀ (d : Nat) (t : Tr8), d ≤ 100 → cntT t ≤ 1000000 → AFnP Try.prog 39 [.agg [lstE entE t.es, lstE kidRow t.ks], i64 (d : Int)] (.bool (rightT d t))
  | 0, t, hd, hc => by
    refine afnp_in ty_ok Try.call39 Try.func39 rfl rfl (by decide +kernel) ?_
    (try conv=>whnf)<;>repeat'((first|exact sNo|refine sT ?_|refine sF ?_|((first|refine sD ?_ ?_|refine sE ?_ ?_|refine sN ?_ ?_|refine sG ?_ ?_)<;>intro ht<;>(first|(cases ht;done)|skip))|refine wr ?_|refine ix ?_|refine ati ?_|refine row ?_|refine app ?_|refine dr ?_|refine VAnd.mk ?_ ?_|exact VJe.mk rfl ⟨rfl,rfl⟩|refine .inl (slM ?_)|refine .inl (slO ?_)|refine slM ?_|refine slO ?_|refine slN ?_|refine slS ?_|refine swB (swM fun C hC=>?_)|refine sj ?_|refine .inl (sv ?_)|refine sv ?_|refine cl ?_|refine s3 ?_|refine az ?_|refine rm ?_|refine VBs.own ?_|fail)<;>(try conv=>whnf))
    all_goals rfl
  | d + 1, t, hd, hc => by
    have ih := rright_a d
    obtain ⟨D, hD⟩ : ∃ D : Int, D = ((d + 1 : Nat) : Int) := ⟨_, rfl⟩
    rw [← hD, kidRow_fun]
    refine afnp_in ty_ok Try.call39 Try.func39 rfl rfl (by decide +kernel) ?_
    have hcnt := cntT_eq t
    (try conv=>whnf)<;>repeat'((first|exact sNo|refine sT ?_|refine sF ?_|((first|refine sD ?_ ?_|refine sE ?_ ?_|refine sN ?_ ?_|refine sG ?_ ?_)<;>intro ht<;>(first|(cases ht;done)|skip))|refine wr ?_|refine ix ?_|refine ati ?_|refine row ?_|refine app ?_|refine dr ?_|refine VAnd.mk ?_ ?_|exact VJe.mk rfl ⟨rfl,rfl⟩|refine .inl (slM ?_)|refine .inl (slO ?_)|refine slM ?_|refine slO ?_|refine slN ?_|refine slS ?_|refine swB (swM fun C hC=>?_)|refine sj ?_|refine .inl (sv ?_)|refine sv ?_|refine cl ?_|refine s3 ?_|refine az ?_|refine rm ?_|refine VBs.own ?_|fail)<;>(try conv=>whnf))
    refine VLp.mk ⟨[], [2], [13], fun k vs h => ∃ i : Nat, vs = [i64 i] ∧ h = [.blk 0 [lstE entE t.es, lstE kidE t.ks] 25] ∧ i ≤ t.es.length ∧ k = t.es.length - i ∧ ∀ j, j < i → goodE t.es j = true, t.es.length, ?_⟩
    conv => whnf
    refine ⟨⟨0, rfl, rfl, by omega, by omega, by omega⟩, ?_⟩
    rintro k vs h ⟨i, rfl, rfl, hi, rfl, hg⟩
    by_cases hin : i < t.es.length
    · have hgi := goodE_eq hin
      have r1 := rentry_a t.es[i]
      generalize okEnt t.es[i] = b1 at *
      have no : goodE t.es i = false → AV.bool false = AV.bool (rightT (d + 1) t) := fun h => congrArg AV.bool (rightT_noE (entsOk_false hin (by rw [h]; decide))).symm
      have yes : goodE t.es i = true → ∀ j, j < i + 1 → goodE t.es j = true := fun h j hj => by rcases Nat.lt_succ_iff_lt_or_eq.1 hj with h' | rfl; exact hg j h'; exact h
      rcases Nat.eq_zero_or_pos i with h0 | h0
      · have hz : decide (i = 0) = true := decide_eq_true h0
        rw [hz, Bool.true_or, Bool.and_true] at hgi
        cases b1
        · (try conv=>whnf)<;>repeat'((first|exact sNo|refine sT ?_|refine sF ?_|((first|refine sD ?_ ?_|refine sE ?_ ?_|refine sN ?_ ?_|refine sG ?_ ?_)<;>intro ht<;>(first|(cases ht;done)|skip))|refine wr ?_|refine ix ?_|refine ati ?_|refine row ?_|refine app ?_|refine dr ?_|refine VAnd.mk ?_ ?_|exact VJe.mk rfl ⟨rfl,rfl⟩|refine .inl (slM ?_)|refine .inl (slO ?_)|refine slM ?_|refine slO ?_|refine slN ?_|refine slS ?_|refine swB (swM fun C hC=>?_)|refine sj ?_|refine .inl (sv ?_)|refine sv ?_|refine cl ?_|refine s3 ?_|refine az ?_|refine rm ?_|refine VBs.own ?_|refine cf r1 ?_|refine cg r1 ?_|refine cz r1 ?_|fail)<;>(try conv=>whnf))
          all_goals exact no hgi
        · (try conv=>whnf)<;>repeat'((first|exact sNo|refine sT ?_|refine sF ?_|((first|refine sD ?_ ?_|refine sE ?_ ?_|refine sN ?_ ?_|refine sG ?_ ?_)<;>intro ht<;>(first|(cases ht;done)|skip))|refine wr ?_|refine ix ?_|refine ati ?_|refine row ?_|refine app ?_|refine dr ?_|refine VAnd.mk ?_ ?_|exact VJe.mk rfl ⟨rfl,rfl⟩|refine .inl (slM ?_)|refine .inl (slO ?_)|refine slM ?_|refine slO ?_|refine slN ?_|refine slS ?_|refine swB (swM fun C hC=>?_)|refine sj ?_|refine .inl (sv ?_)|refine sv ?_|refine cl ?_|refine s3 ?_|refine az ?_|refine rm ?_|refine VBs.own ?_|refine cf r1 ?_|refine cg r1 ?_|refine cz r1 ?_|fail)<;>(try conv=>whnf))
          all_goals exact VRd.mk rfl ⟨t.es.length - (i + 1), by omega, i + 1, rfl, rfl, by omega, rfl, yes hgi⟩
      · obtain ⟨i0, hi0⟩ : ∃ j, i = j + 1 := ⟨i - 1, by omega⟩
        have hj : (i : Int) - 1 = (i0 : Int) := by omega
        have hi1 : i - 1 = i0 := by omega
        have hz : decide (i = 0) = false := decide_eq_false (by omega)
        simp only [hi1] at hgi
        rw [hz, Bool.false_or] at hgi
        have r2 := rless_a (t.es[i0]'(by omega)).1 t.es[i].1
        generalize ltDot (t.es[i0]'(by omega)).1 t.es[i].1 = b2 at *
        cases b1
        · (try conv=>whnf)<;>repeat'((first|exact sNo|refine sT ?_|refine sF ?_|((first|refine sD ?_ ?_|refine sE ?_ ?_|refine sN ?_ ?_|refine sG ?_ ?_)<;>intro ht<;>(first|(cases ht;done)|skip))|refine wr ?_|refine ix ?_|refine ati ?_|refine row ?_|refine app ?_|refine dr ?_|refine VAnd.mk ?_ ?_|exact VJe.mk rfl ⟨rfl,rfl⟩|refine .inl (slM ?_)|refine .inl (slO ?_)|refine slM ?_|refine slO ?_|refine slN ?_|refine slS ?_|refine swB (swM fun C hC=>?_)|refine sj ?_|refine .inl (sv ?_)|refine sv ?_|refine cl ?_|refine s3 ?_|refine az ?_|refine rm ?_|refine VBs.own ?_|refine cf r1 ?_|refine cg r1 ?_|refine cz r1 ?_|fail)<;>(try conv=>whnf))
          all_goals exact no hgi
        · cases b2
          · (try conv=>whnf)<;>repeat'((first|exact sNo|refine sT ?_|refine sF ?_|((first|refine sD ?_ ?_|refine sE ?_ ?_|refine sN ?_ ?_|refine sG ?_ ?_)<;>intro ht<;>(first|(cases ht;done)|skip))|refine wr ?_|refine ix ?_|refine ati ?_|refine row ?_|refine app ?_|refine dr ?_|refine VAnd.mk ?_ ?_|exact VJe.mk rfl ⟨rfl,rfl⟩|refine .inl (slM ?_)|refine .inl (slO ?_)|refine slM ?_|refine slO ?_|refine slN ?_|refine slS ?_|refine swB (swM fun C hC=>?_)|refine sj ?_|refine .inl (sv ?_)|refine sv ?_|refine cl ?_|refine s3 ?_|refine az ?_|refine rm ?_|refine VBs.own ?_|refine cf r1 ?_|refine cg r1 ?_|refine cz r1 ?_|refine cf r2 ?_|refine cg r2 ?_|refine cz r2 ?_|fail)<;>(try conv=>whnf))
            all_goals exact no hgi
          · (try conv=>whnf)<;>repeat'((first|exact sNo|refine sT ?_|refine sF ?_|((first|refine sD ?_ ?_|refine sE ?_ ?_|refine sN ?_ ?_|refine sG ?_ ?_)<;>intro ht<;>(first|(cases ht;done)|skip))|refine wr ?_|refine ix ?_|refine ati ?_|refine row ?_|refine app ?_|refine dr ?_|refine VAnd.mk ?_ ?_|exact VJe.mk rfl ⟨rfl,rfl⟩|refine .inl (slM ?_)|refine .inl (slO ?_)|refine slM ?_|refine slO ?_|refine slN ?_|refine slS ?_|refine swB (swM fun C hC=>?_)|refine sj ?_|refine .inl (sv ?_)|refine sv ?_|refine cl ?_|refine s3 ?_|refine az ?_|refine rm ?_|refine VBs.own ?_|refine cf r1 ?_|refine cg r1 ?_|refine cz r1 ?_|refine cf r2 ?_|refine cg r2 ?_|refine cz r2 ?_|fail)<;>(try conv=>whnf))
            all_goals exact VRd.mk rfl ⟨t.es.length - (i + 1), by omega, i + 1, rfl, rfl, by omega, rfl, yes hgi⟩
    · have he : entsOk t.es = true := entsOk_true fun j hj => hg j (by omega)
      clear hg
      (try conv=>whnf)<;>repeat'((first|exact sNo|refine sT ?_|refine sF ?_|((first|refine sD ?_ ?_|refine sE ?_ ?_|refine sN ?_ ?_|refine sG ?_ ?_)<;>intro ht<;>(first|(cases ht;done)|skip))|refine wr ?_|refine ix ?_|refine ati ?_|refine row ?_|refine app ?_|refine dr ?_|refine VAnd.mk ?_ ?_|exact VJe.mk rfl ⟨rfl,rfl⟩|refine .inl (slM ?_)|refine .inl (slO ?_)|refine slM ?_|refine slO ?_|refine slN ?_|refine slS ?_|refine swB (swM fun C hC=>?_)|refine sj ?_|refine .inl (sv ?_)|refine sv ?_|refine cl ?_|refine s3 ?_|refine az ?_|refine rm ?_|refine VBs.own ?_|fail)<;>(try conv=>whnf))
      refine VLp.mk ⟨[], [2], [48], fun k vs h => ∃ i : Nat, vs = [i64 i] ∧ h = [.blk 0 [lstE entE t.es, lstE kidE t.ks] 25] ∧ i ≤ t.ks.length ∧ k = t.ks.length - i ∧ ∀ j, j < i → goodK (rightT d) t.ks j = true, t.ks.length, ?_⟩
      conv => whnf
      refine ⟨⟨0, rfl, rfl, by omega, by omega, by omega⟩, ?_⟩
      rintro k vs h ⟨i, rfl, rfl, hi, rfl, hg⟩
      by_cases hin : i < t.ks.length
      · have hgi := goodK_eq (f := rightT d) hin
        have hcx := cntK_mem (List.getElem_mem hin)
        have r1 := rkey_a t.ks[i].1
        have hem : emptyT t.ks[i].2 = decide (((t.ks[i].2.es.length : Nat) : Int) + (t.ks[i].2.ks.length : Nat) = 0) := by
          unfold emptyT
          rw [Bool.eq_iff_iff]
          simp only [Bool.and_eq_true, decide_eq_true_eq, ← List.length_eq_zero_iff]
          omega
        have hc2 := cntT_eq t.ks[i].2
        have r3 := ih t.ks[i].2 (by omega) (by omega)
        rw [show (d : Int) = D - 1 by omega] at r3
        generalize okKey t.ks[i].1 = b1 at *
        generalize emptyT t.ks[i].2 = b2 at *
        have hb2 : b2 = true ↔ ((t.ks[i].2.es.length : Nat) : Int) + (t.ks[i].2.ks.length : Nat) = 0 := by rw [hem, decide_eq_true_eq]
        clear hem
        generalize rightT d t.ks[i].2 = b3 at *
        have no : goodK (rightT d) t.ks i = false → AV.bool false = AV.bool (rightT (d + 1) t) := fun h => congrArg AV.bool (rightT_no hin h).symm
        have yes : goodK (rightT d) t.ks i = true → ∀ j, j < i + 1 → goodK (rightT d) t.ks j = true := fun h j hj => by rcases Nat.lt_succ_iff_lt_or_eq.1 hj with h' | rfl; exact hg j h'; exact h
        rcases Nat.eq_zero_or_pos i with h0 | h0
        · have hz : decide (i = 0) = true := decide_eq_true h0
          rw [hz, Bool.true_or, Bool.true_and] at hgi
          cases b1
          · (try conv=>whnf)<;>repeat'((first|exact sNo|refine sT ?_|refine sF ?_|((first|refine sD ?_ ?_|refine sE ?_ ?_|refine sN ?_ ?_|refine sG ?_ ?_)<;>intro ht<;>(first|(cases ht;done)|skip))|refine wr ?_|refine ix ?_|refine ati ?_|refine row ?_|refine app ?_|refine dr ?_|refine VAnd.mk ?_ ?_|exact VJe.mk rfl ⟨rfl,rfl⟩|refine .inl (slM ?_)|refine .inl (slO ?_)|refine slM ?_|refine slO ?_|refine slN ?_|refine slS ?_|refine swB (swM fun C hC=>?_)|refine sj ?_|refine .inl (sv ?_)|refine sv ?_|refine cl ?_|refine s3 ?_|refine az ?_|refine rm ?_|refine VBs.own ?_|refine cf r1 ?_|refine cg r1 ?_|refine cz r1 ?_|fail)<;>(try conv=>whnf))
            all_goals exact no hgi
          · cases b2
            all_goals simp only [Bool.false_eq_true, false_iff, true_iff] at hb2
            · cases b3
              · (try conv=>whnf)<;>repeat'((first|exact sNo|refine sT ?_|refine sF ?_|((first|refine sD ?_ ?_|refine sE ?_ ?_|refine sN ?_ ?_|refine sG ?_ ?_)<;>intro ht<;>(first|(cases ht;done)|skip))|refine wr ?_|refine ix ?_|refine ati ?_|refine row ?_|refine app ?_|refine dr ?_|refine VAnd.mk ?_ ?_|exact VJe.mk rfl ⟨rfl,rfl⟩|refine .inl (slM ?_)|refine .inl (slO ?_)|refine slM ?_|refine slO ?_|refine slN ?_|refine slS ?_|refine swB (swM fun C hC=>?_)|refine sj ?_|refine .inl (sv ?_)|refine sv ?_|refine cl ?_|refine s3 ?_|refine az ?_|refine rm ?_|refine VBs.own ?_|refine cf r1 ?_|refine cg r1 ?_|refine cz r1 ?_|refine cf r3 ?_|refine cg r3 ?_|refine cz r3 ?_|fail)<;>(try conv=>whnf))
                all_goals exact no hgi
              · (try conv=>whnf)<;>repeat'((first|exact sNo|refine sT ?_|refine sF ?_|((first|refine sD ?_ ?_|refine sE ?_ ?_|refine sN ?_ ?_|refine sG ?_ ?_)<;>intro ht<;>(first|(cases ht;done)|skip))|refine wr ?_|refine ix ?_|refine ati ?_|refine row ?_|refine app ?_|refine dr ?_|refine VAnd.mk ?_ ?_|exact VJe.mk rfl ⟨rfl,rfl⟩|refine .inl (slM ?_)|refine .inl (slO ?_)|refine slM ?_|refine slO ?_|refine slN ?_|refine slS ?_|refine swB (swM fun C hC=>?_)|refine sj ?_|refine .inl (sv ?_)|refine sv ?_|refine cl ?_|refine s3 ?_|refine az ?_|refine rm ?_|refine VBs.own ?_|refine cf r1 ?_|refine cg r1 ?_|refine cz r1 ?_|refine cf r3 ?_|refine cg r3 ?_|refine cz r3 ?_|fail)<;>(try conv=>whnf))
                all_goals exact VRd.mk rfl ⟨t.ks.length - (i + 1), by omega, i + 1, rfl, rfl, by omega, rfl, yes hgi⟩
            · (try conv=>whnf)<;>repeat'((first|exact sNo|refine sT ?_|refine sF ?_|((first|refine sD ?_ ?_|refine sE ?_ ?_|refine sN ?_ ?_|refine sG ?_ ?_)<;>intro ht<;>(first|(cases ht;done)|skip))|refine wr ?_|refine ix ?_|refine ati ?_|refine row ?_|refine app ?_|refine dr ?_|refine VAnd.mk ?_ ?_|exact VJe.mk rfl ⟨rfl,rfl⟩|refine .inl (slM ?_)|refine .inl (slO ?_)|refine slM ?_|refine slO ?_|refine slN ?_|refine slS ?_|refine swB (swM fun C hC=>?_)|refine sj ?_|refine .inl (sv ?_)|refine sv ?_|refine cl ?_|refine s3 ?_|refine az ?_|refine rm ?_|refine VBs.own ?_|refine cf r1 ?_|refine cg r1 ?_|refine cz r1 ?_|refine cf r3 ?_|refine cg r3 ?_|refine cz r3 ?_|fail)<;>(try conv=>whnf))
              all_goals exact no hgi
        · obtain ⟨i0, hi0⟩ : ∃ j, i = j + 1 := ⟨i - 1, by omega⟩
          have hj : (i : Int) - 1 = (i0 : Int) := by omega
          have hi1 : i - 1 = i0 := by omega
          have hz : decide (i = 0) = false := decide_eq_false (by omega)
          simp only [hi1] at hgi
          rw [hz, Bool.false_or] at hgi
          unfold ltKey at hgi
          cases b1
          · (try conv=>whnf)<;>repeat'((first|exact sNo|refine sT ?_|refine sF ?_|((first|refine sD ?_ ?_|refine sE ?_ ?_|refine sN ?_ ?_|refine sG ?_ ?_)<;>intro ht<;>(first|(cases ht;done)|skip))|refine wr ?_|refine ix ?_|refine ati ?_|refine row ?_|refine app ?_|refine dr ?_|refine VAnd.mk ?_ ?_|exact VJe.mk rfl ⟨rfl,rfl⟩|refine .inl (slM ?_)|refine .inl (slO ?_)|refine slM ?_|refine slO ?_|refine slN ?_|refine slS ?_|refine swB (swM fun C hC=>?_)|refine sj ?_|refine .inl (sv ?_)|refine sv ?_|refine cl ?_|refine s3 ?_|refine az ?_|refine rm ?_|refine VBs.own ?_|refine cf r1 ?_|refine cg r1 ?_|refine cz r1 ?_|fail)<;>(try conv=>whnf))
            all_goals exact no hgi
          · cases hl : Op.bytesLess (t.ks[i0]'(by omega)).1.toList t.ks[i].1.toList
            · rw [hl] at hgi
              have hl2 : (!Op.bytesLess (t.ks[i0]'(by omega)).1.toList t.ks[i].1.toList) = true := by rw [hl]; rfl
              (try conv=>whnf)<;>repeat'((first|exact sNo|refine sT ?_|refine sF ?_|((first|refine sD ?_ ?_|refine sE ?_ ?_|refine sN ?_ ?_|refine sG ?_ ?_)<;>intro ht<;>(first|(cases ht;done)|skip))|refine wr ?_|refine ix ?_|refine ati ?_|refine row ?_|refine app ?_|refine dr ?_|refine VAnd.mk ?_ ?_|exact VJe.mk rfl ⟨rfl,rfl⟩|refine .inl (slM ?_)|refine .inl (slO ?_)|refine slM ?_|refine slO ?_|refine slN ?_|refine slS ?_|refine swB (swM fun C hC=>?_)|refine sj ?_|refine .inl (sv ?_)|refine sv ?_|refine cl ?_|refine s3 ?_|refine az ?_|refine rm ?_|refine VBs.own ?_|refine cf r1 ?_|refine cg r1 ?_|refine cz r1 ?_|fail)<;>(try conv=>whnf))
              all_goals exact no hgi
            · rw [hl] at hgi
              have hl2 : (!Op.bytesLess (t.ks[i0]'(by omega)).1.toList t.ks[i].1.toList) = false := by rw [hl]; rfl
              cases b2
              all_goals simp only [Bool.false_eq_true, false_iff, true_iff] at hb2
              · cases b3
                · (try conv=>whnf)<;>repeat'((first|exact sNo|refine sT ?_|refine sF ?_|((first|refine sD ?_ ?_|refine sE ?_ ?_|refine sN ?_ ?_|refine sG ?_ ?_)<;>intro ht<;>(first|(cases ht;done)|skip))|refine wr ?_|refine ix ?_|refine ati ?_|refine row ?_|refine app ?_|refine dr ?_|refine VAnd.mk ?_ ?_|exact VJe.mk rfl ⟨rfl,rfl⟩|refine .inl (slM ?_)|refine .inl (slO ?_)|refine slM ?_|refine slO ?_|refine slN ?_|refine slS ?_|refine swB (swM fun C hC=>?_)|refine sj ?_|refine .inl (sv ?_)|refine sv ?_|refine cl ?_|refine s3 ?_|refine az ?_|refine rm ?_|refine VBs.own ?_|refine cf r1 ?_|refine cg r1 ?_|refine cz r1 ?_|refine cf r3 ?_|refine cg r3 ?_|refine cz r3 ?_|fail)<;>(try conv=>whnf))
                  all_goals exact no hgi
                · (try conv=>whnf)<;>repeat'((first|exact sNo|refine sT ?_|refine sF ?_|((first|refine sD ?_ ?_|refine sE ?_ ?_|refine sN ?_ ?_|refine sG ?_ ?_)<;>intro ht<;>(first|(cases ht;done)|skip))|refine wr ?_|refine ix ?_|refine ati ?_|refine row ?_|refine app ?_|refine dr ?_|refine VAnd.mk ?_ ?_|exact VJe.mk rfl ⟨rfl,rfl⟩|refine .inl (slM ?_)|refine .inl (slO ?_)|refine slM ?_|refine slO ?_|refine slN ?_|refine slS ?_|refine swB (swM fun C hC=>?_)|refine sj ?_|refine .inl (sv ?_)|refine sv ?_|refine cl ?_|refine s3 ?_|refine az ?_|refine rm ?_|refine VBs.own ?_|refine cf r1 ?_|refine cg r1 ?_|refine cz r1 ?_|refine cf r3 ?_|refine cg r3 ?_|refine cz r3 ?_|fail)<;>(try conv=>whnf))
                  all_goals exact VRd.mk rfl ⟨t.ks.length - (i + 1), by omega, i + 1, rfl, rfl, by omega, rfl, yes hgi⟩
              · (try conv=>whnf)<;>repeat'((first|exact sNo|refine sT ?_|refine sF ?_|((first|refine sD ?_ ?_|refine sE ?_ ?_|refine sN ?_ ?_|refine sG ?_ ?_)<;>intro ht<;>(first|(cases ht;done)|skip))|refine wr ?_|refine ix ?_|refine ati ?_|refine row ?_|refine app ?_|refine dr ?_|refine VAnd.mk ?_ ?_|exact VJe.mk rfl ⟨rfl,rfl⟩|refine .inl (slM ?_)|refine .inl (slO ?_)|refine slM ?_|refine slO ?_|refine slN ?_|refine slS ?_|refine swB (swM fun C hC=>?_)|refine sj ?_|refine .inl (sv ?_)|refine sv ?_|refine cl ?_|refine s3 ?_|refine az ?_|refine rm ?_|refine VBs.own ?_|refine cf r1 ?_|refine cg r1 ?_|refine cz r1 ?_|refine cf r3 ?_|refine cg r3 ?_|refine cz r3 ?_|fail)<;>(try conv=>whnf))
                all_goals exact no hgi
      · (try conv=>whnf)<;>repeat'((first|exact sNo|refine sT ?_|refine sF ?_|((first|refine sD ?_ ?_|refine sE ?_ ?_|refine sN ?_ ?_|refine sG ?_ ?_)<;>intro ht<;>(first|(cases ht;done)|skip))|refine wr ?_|refine ix ?_|refine ati ?_|refine row ?_|refine app ?_|refine dr ?_|refine VAnd.mk ?_ ?_|exact VJe.mk rfl ⟨rfl,rfl⟩|refine .inl (slM ?_)|refine .inl (slO ?_)|refine slM ?_|refine slO ?_|refine slN ?_|refine slS ?_|refine swB (swM fun C hC=>?_)|refine sj ?_|refine .inl (sv ?_)|refine sv ?_|refine cl ?_|refine s3 ?_|refine az ?_|refine rm ?_|refine VBs.own ?_|fail)<;>(try conv=>whnf))
        exact congrArg AV.bool (rightT_yes he fun j hj => hg j (by omega)).symm
theorem rtright_a (t : Tr8) (hc : cntT t ≤ 1000000) : AFnP Try.prog 15 [.agg [lstE entE t.es, lstE kidRow t.ks]] (.bool (rightT 5 t)) := by
  refine afnp_in ty_ok Try.call15 Try.func15 rfl rfl (by decide +kernel) ?_
  have r : AFnP Try.prog 39 [.agg [lstE entE t.es, lstE kidRow t.ks], i64 5] (.bool (rightT 5 t)) := rright_a 5 t (by omega) hc
  generalize rightT 5 t = b at *
  (try conv=>whnf)<;>repeat'((first|exact sNo|refine sT ?_|refine sF ?_|((first|refine sD ?_ ?_|refine sE ?_ ?_|refine sN ?_ ?_|refine sG ?_ ?_)<;>intro ht<;>(first|(cases ht;done)|skip))|refine wr ?_|refine ix ?_|refine ati ?_|refine row ?_|refine app ?_|refine dr ?_|refine VAnd.mk ?_ ?_|exact VJe.mk rfl ⟨rfl,rfl⟩|refine .inl (slM ?_)|refine .inl (slO ?_)|refine slM ?_|refine slO ?_|refine slN ?_|refine slS ?_|refine swB (swM fun C hC=>?_)|refine sj ?_|refine .inl (sv ?_)|refine sv ?_|refine cl ?_|refine s3 ?_|refine az ?_|refine rm ?_|refine VBs.own ?_|refine cf r ?_|refine cg r ?_|refine cz r ?_|fail)<;>(try conv=>whnf))
  all_goals rw [ht]
end Go.Proofs.Ytailblpjmgabjaa
