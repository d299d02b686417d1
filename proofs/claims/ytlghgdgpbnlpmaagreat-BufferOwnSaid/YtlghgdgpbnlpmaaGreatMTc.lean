/- What is proved: what Right of chapter 08's reference answers. Conditions: none. -/
import Derived.Test.YtlghgdgpbnlpmaaGreatMTa
import Derived.Test.YtlghgdgpbnlpmaaGreatMTb
import Derived.Lib.Strings
namespace Go.Proofs.YtlghgdgpbnlpmaaGreat
open Go.RowKit
set_option linter.unusedVariables false
set_option linter.unusedSimpArgs false
set_option maxRecDepth 100000
set_option maxHeartbeats 16000000
theorem rentry_a (e : Ent8) : AFnP Tryz.prog 139 [.agg [i64 e.1.1, i64 e.1.2, .str e.2.1, i64 e.2.2]] (.bool (okEnt e)) := by
  refine afnp_in ty_ok Tryz.call139 Tryz.func139 rfl rfl (by decide +kernel) ?_
  have r := rdright_a e.1
  have h : okEnt e = (okDot e.1 && (decide (e.2.1.size ≤ 30) && (decide (e.2.2 ≤ 1099511627776) && decide (-1099511627776 ≤ e.2.2)))) := rfl
  rw [h]
  clear h
  generalize okDot e.1 = b at *
  cases b
  · (try conv=>whnf)<;>repeat'((first|exact sNo|refine sT ?_|refine sF ?_|((first|refine sD ?_ ?_|refine sE ?_ ?_|refine sN ?_ ?_|refine sG ?_ ?_)<;>intro ht<;>(first|(cases ht;done)|skip))|refine wr ?_|refine ix ?_|refine ati ?_|refine row ?_|refine app ?_|refine dr ?_|refine VBs.own ?_|refine cf r ?_|refine cg r ?_|refine cz r ?_|fail)<;>(try conv=>whnf))
    all_goals rfl
  · (try conv=>whnf)<;>repeat'((first|exact sNo|refine sT ?_|refine sF ?_|((first|refine sD ?_ ?_|refine sE ?_ ?_|refine sN ?_ ?_|refine sG ?_ ?_)<;>intro ht<;>(first|(cases ht;done)|skip))|refine wr ?_|refine ix ?_|refine ati ?_|refine row ?_|refine app ?_|refine dr ?_|refine VBs.own ?_|refine cf r ?_|refine cg r ?_|refine cz r ?_|fail)<;>(try conv=>whnf))
    all_goals (refine congrArg AV.bool ?_; rw [Bool.eq_iff_iff]; simp only [Bool.true_and, Bool.and_eq_true, decide_eq_true_eq, Bool.false_eq_true, false_iff, true_iff]; omega)
theorem goodE_eq {l : List Ent8} {i : Nat} (h : i < l.length) : goodE l i = (okEnt l[i] && (decide (i = 0) || ltDot l[i - 1].1 l[i].1)) := by
  unfold goodE
  rw [List.getElem?_eq_getElem h, List.getElem?_eq_getElem (show i - 1 < l.length by omega)]
theorem rightT_noE {d : Nat} {t : Tr8} (h : entsOk t.es = false) : rightT (d + 1) t = false := by rw [rightT, h]; rfl
theorem rright_a : ∀ (d : Nat) (t : Tr8), d ≤ 100 → cntT t ≤ 1000000 → AFnP Tryz.prog 120 [.agg [lstE entE t.es, lstE kidRow t.ks], i64 (d : Int)] (.bool (rightT d t))
  | 0, t, hd, hc => by
    refine afnp_in ty_ok Tryz.call120 Tryz.func120 rfl rfl (by decide +kernel) ?_
    (try conv=>whnf)<;>repeat'((first|exact sNo|refine sT ?_|refine sF ?_|((first|refine sD ?_ ?_|refine sE ?_ ?_|refine sN ?_ ?_|refine sG ?_ ?_)<;>intro ht<;>(first|(cases ht;done)|skip))|refine wr ?_|refine ix ?_|refine ati ?_|refine row ?_|refine app ?_|refine dr ?_|refine VBs.own ?_|fail)<;>(try conv=>whnf))
    all_goals rfl
  | d + 1, t, hd, hc => by
    have ih := rright_a d
    obtain ⟨D, hD⟩ : ∃ D : Int, D = ((d + 1 : Nat) : Int) := ⟨_, rfl⟩
    rw [← hD, kidRow_fun]
    refine afnp_in ty_ok Tryz.call120 Tryz.func120 rfl rfl (by decide +kernel) ?_
    have hcnt := cntT_eq t
    (try conv=>whnf)<;>repeat'((first|exact sNo|refine sT ?_|refine sF ?_|((first|refine sD ?_ ?_|refine sE ?_ ?_|refine sN ?_ ?_|refine sG ?_ ?_)<;>intro ht<;>(first|(cases ht;done)|skip))|refine wr ?_|refine ix ?_|refine ati ?_|refine row ?_|refine app ?_|refine dr ?_|refine VBs.own ?_|fail)<;>(try conv=>whnf))
    refine VLp.mk ⟨[], [2], [13], fun k vs h => ∃ i : Nat, vs = [i64 i] ∧ h = [.blk 0 [lstE entE t.es, lstE kidE t.ks] 37] ∧ i ≤ t.es.length ∧ k = t.es.length - i ∧ ∀ j, j < i → goodE t.es j = true, t.es.length, ?_⟩
    conv => whnf
    refine ⟨⟨0, rfl, rfl, by omega, by omega, by omega⟩, ?_⟩
    rintro k vs h ⟨i, rfl, rfl, hi, rfl, hg⟩
    by_cases hin : i < t.es.length
    · have hgi := goodE_eq hin
      have r1 := rentry_a t.es[i]
      generalize okEnt t.es[i] = b1 at *
      have no : goodE t.es i = false → AV.bool false = AV.bool (rightT (d + 1) t) := fun h => congrArg AV.bool (rightT_noE (entsOk_false hin (by rw [h]; decide))).symm
      have yes : goodE t.es i = true → ∀ j, j < i + 1 → goodE t.es j = true := fun h j hj => by rcases Nat.lt_succ_iff_lt_or_eq.1 hj with h' | rfl; exact hg j h'; exact h
      rcases Nat.eq_zero_or_pos i with h0 | h0
      · have hz : decide (i = 0) = true := decide_eq_true h0
        rw [hz, Bool.true_or, Bool.and_true] at hgi
        cases b1
        · (try conv=>whnf)<;>repeat'((first|exact sNo|refine sT ?_|refine sF ?_|((first|refine sD ?_ ?_|refine sE ?_ ?_|refine sN ?_ ?_|refine sG ?_ ?_)<;>intro ht<;>(first|(cases ht;done)|skip))|refine wr ?_|refine ix ?_|refine ati ?_|refine row ?_|refine app ?_|refine dr ?_|refine VBs.own ?_|refine cf r1 ?_|refine cg r1 ?_|refine cz r1 ?_|fail)<;>(try conv=>whnf))
          all_goals exact no hgi
        · (try conv=>whnf)<;>repeat'((first|exact sNo|refine sT ?_|refine sF ?_|((first|refine sD ?_ ?_|refine sE ?_ ?_|refine sN ?_ ?_|refine sG ?_ ?_)<;>intro ht<;>(first|(cases ht;done)|skip))|refine wr ?_|refine ix ?_|refine ati ?_|refine row ?_|refine app ?_|refine dr ?_|refine VBs.own ?_|refine cf r1 ?_|refine cg r1 ?_|refine cz r1 ?_|fail)<;>(try conv=>whnf))
          all_goals exact VRd.mk rfl ⟨t.es.length - (i + 1), by omega, i + 1, rfl, rfl, by omega, rfl, yes hgi⟩
      · obtain ⟨i0, hi0⟩ : ∃ j, i = j + 1 := ⟨i - 1, by omega⟩
        have hj : (i : Int) - 1 = (i0 : Int) := by omega
        have hi1 : i - 1 = i0 := by omega
        have hz : decide (i = 0) = false := decide_eq_false (by omega)
        simp only [hi1] at hgi
        rw [hz, Bool.false_or] at hgi
        have r2 := rless_a (t.es[i0]'(by omega)).1 t.es[i].1
        generalize ltDot (t.es[i0]'(by omega)).1 t.es[i].1 = b2 at *
        cases b1
        · (try conv=>whnf)<;>repeat'((first|exact sNo|refine sT ?_|refine sF ?_|((first|refine sD ?_ ?_|refine sE ?_ ?_|refine sN ?_ ?_|refine sG ?_ ?_)<;>intro ht<;>(first|(cases ht;done)|skip))|refine wr ?_|refine ix ?_|refine ati ?_|refine row ?_|refine app ?_|refine dr ?_|refine VBs.own ?_|refine cf r1 ?_|refine cg r1 ?_|refine cz r1 ?_|fail)<;>(try conv=>whnf))
          all_goals exact no hgi
        · cases b2
          · (try conv=>whnf)<;>repeat'((first|exact sNo|refine sT ?_|refine sF ?_|((first|refine sD ?_ ?_|refine sE ?_ ?_|refine sN ?_ ?_|refine sG ?_ ?_)<;>intro ht<;>(first|(cases ht;done)|skip))|refine wr ?_|refine ix ?_|refine ati ?_|refine row ?_|refine app ?_|refine dr ?_|refine VBs.own ?_|refine cf r1 ?_|refine cg r1 ?_|refine cz r1 ?_|refine cf r2 ?_|refine cg r2 ?_|refine cz r2 ?_|fail)<;>(try conv=>whnf))
            all_goals exact no hgi
          · (try conv=>whnf)<;>repeat'((first|exact sNo|refine sT ?_|refine sF ?_|((first|refine sD ?_ ?_|refine sE ?_ ?_|refine sN ?_ ?_|refine sG ?_ ?_)<;>intro ht<;>(first|(cases ht;done)|skip))|refine wr ?_|refine ix ?_|refine ati ?_|refine row ?_|refine app ?_|refine dr ?_|refine VBs.own ?_|refine cf r1 ?_|refine cg r1 ?_|refine cz r1 ?_|refine cf r2 ?_|refine cg r2 ?_|refine cz r2 ?_|fail)<;>(try conv=>whnf))
            all_goals exact VRd.mk rfl ⟨t.es.length - (i + 1), by omega, i + 1, rfl, rfl, by omega, rfl, yes hgi⟩
    · have he : entsOk t.es = true := entsOk_true fun j hj => hg j (by omega)
      clear hg
      (try conv=>whnf)<;>repeat'((first|exact sNo|refine sT ?_|refine sF ?_|((first|refine sD ?_ ?_|refine sE ?_ ?_|refine sN ?_ ?_|refine sG ?_ ?_)<;>intro ht<;>(first|(cases ht;done)|skip))|refine wr ?_|refine ix ?_|refine ati ?_|refine row ?_|refine app ?_|refine dr ?_|refine VBs.own ?_|fail)<;>(try conv=>whnf))
      refine VLp.mk ⟨[], [2], [48], fun k vs h => ∃ i : Nat, vs = [i64 i] ∧ h = [.blk 0 [lstE entE t.es, lstE kidE t.ks] 37] ∧ i ≤ t.ks.length ∧ k = t.ks.length - i ∧ ∀ j, j < i → goodK (rightT d) t.ks j = true, t.ks.length, ?_⟩
      conv => whnf
      refine ⟨⟨0, rfl, rfl, by omega, by omega, by omega⟩, ?_⟩
      rintro k vs h ⟨i, rfl, rfl, hi, rfl, hg⟩
      by_cases hin : i < t.ks.length
      · have hgi := goodK_eq (f := rightT d) hin
        have hcx := cntK_mem (List.getElem_mem hin)
        have r1 := rkey_a t.ks[i].1
        have hem : emptyT t.ks[i].2 = decide (((t.ks[i].2.es.length : Nat) : Int) + (t.ks[i].2.ks.length : Nat) = 0) := by
          unfold emptyT
          rw [Bool.eq_iff_iff]
          simp only [Bool.and_eq_true, decide_eq_true_eq, ← List.length_eq_zero_iff]
          omega
        have hc2 := cntT_eq t.ks[i].2
        have r3 := ih t.ks[i].2 (by omega) (by omega)
        rw [show (d : Int) = D - 1 by omega] at r3
        generalize okKey t.ks[i].1 = b1 at *
        generalize emptyT t.ks[i].2 = b2 at *
        have hb2 : b2 = true ↔ ((t.ks[i].2.es.length : Nat) : Int) + (t.ks[i].2.ks.length : Nat) = 0 := by rw [hem, decide_eq_true_eq]
        clear hem
        generalize rightT d t.ks[i].2 = b3 at *
        have no : goodK (rightT d) t.ks i = false → AV.bool false = AV.bool (rightT (d + 1) t) := fun h => congrArg AV.bool (rightT_no hin h).symm
        have yes : goodK (rightT d) t.ks i = true → ∀ j, j < i + 1 → goodK (rightT d) t.ks j = true := fun h j hj => by rcases Nat.lt_succ_iff_lt_or_eq.1 hj with h' | rfl; exact hg j h'; exact h
        rcases Nat.eq_zero_or_pos i with h0 | h0
        · have hz : decide (i = 0) = true := decide_eq_true h0
          rw [hz, Bool.true_or, Bool.true_and] at hgi
          cases b1
          · (try conv=>whnf)<;>repeat'((first|exact sNo|refine sT ?_|refine sF ?_|((first|refine sD ?_ ?_|refine sE ?_ ?_|refine sN ?_ ?_|refine sG ?_ ?_)<;>intro ht<;>(first|(cases ht;done)|skip))|refine wr ?_|refine ix ?_|refine ati ?_|refine row ?_|refine app ?_|refine dr ?_|refine VBs.own ?_|refine cf r1 ?_|refine cg r1 ?_|refine cz r1 ?_|fail)<;>(try conv=>whnf))
            all_goals exact no hgi
          · cases b2
            all_goals simp only [Bool.false_eq_true, false_iff, true_iff] at hb2
            · cases b3
              · (try conv=>whnf)<;>repeat'((first|exact sNo|refine sT ?_|refine sF ?_|((first|refine sD ?_ ?_|refine sE ?_ ?_|refine sN ?_ ?_|refine sG ?_ ?_)<;>intro ht<;>(first|(cases ht;done)|skip))|refine wr ?_|refine ix ?_|refine ati ?_|refine row ?_|refine app ?_|refine dr ?_|refine VBs.own ?_|refine cf r1 ?_|refine cg r1 ?_|refine cz r1 ?_|refine cf r3 ?_|refine cg r3 ?_|refine cz r3 ?_|fail)<;>(try conv=>whnf))
                all_goals exact no hgi
              · (try conv=>whnf)<;>repeat'((first|exact sNo|refine sT ?_|refine sF ?_|((first|refine sD ?_ ?_|refine sE ?_ ?_|refine sN ?_ ?_|refine sG ?_ ?_)<;>intro ht<;>(first|(cases ht;done)|skip))|refine wr ?_|refine ix ?_|refine ati ?_|refine row ?_|refine app ?_|refine dr ?_|refine VBs.own ?_|refine cf r1 ?_|refine cg r1 ?_|refine cz r1 ?_|refine cf r3 ?_|refine cg r3 ?_|refine cz r3 ?_|fail)<;>(try conv=>whnf))
                all_goals exact VRd.mk rfl ⟨t.ks.length - (i + 1), by omega, i + 1, rfl, rfl, by omega, rfl, yes hgi⟩
            · (try conv=>whnf)<;>repeat'((first|exact sNo|refine sT ?_|refine sF ?_|((first|refine sD ?_ ?_|refine sE ?_ ?_|refine sN ?_ ?_|refine sG ?_ ?_)<;>intro ht<;>(first|(cases ht;done)|skip))|refine wr ?_|refine ix ?_|refine ati ?_|refine row ?_|refine app ?_|refine dr ?_|refine VBs.own ?_|refine cf r1 ?_|refine cg r1 ?_|refine cz r1 ?_|refine cf r3 ?_|refine cg r3 ?_|refine cz r3 ?_|fail)<;>(try conv=>whnf))
              all_goals exact no hgi
        · obtain ⟨i0, hi0⟩ : ∃ j, i = j + 1 := ⟨i - 1, by omega⟩
          have hj : (i : Int) - 1 = (i0 : Int) := by omega
          have hi1 : i - 1 = i0 := by omega
          have hz : decide (i = 0) = false := decide_eq_false (by omega)
          simp only [hi1] at hgi
          rw [hz, Bool.false_or] at hgi
          unfold ltKey at hgi
          cases b1
          · (try conv=>whnf)<;>repeat'((first|exact sNo|refine sT ?_|refine sF ?_|((first|refine sD ?_ ?_|refine sE ?_ ?_|refine sN ?_ ?_|refine sG ?_ ?_)<;>intro ht<;>(first|(cases ht;done)|skip))|refine wr ?_|refine ix ?_|refine ati ?_|refine row ?_|refine app ?_|refine dr ?_|refine VBs.own ?_|refine cf r1 ?_|refine cg r1 ?_|refine cz r1 ?_|fail)<;>(try conv=>whnf))
            all_goals exact no hgi
          · cases hl : Op.bytesLess (t.ks[i0]'(by omega)).1.toList t.ks[i].1.toList
            · rw [hl] at hgi
              have hl2 : (!Op.bytesLess (t.ks[i0]'(by omega)).1.toList t.ks[i].1.toList) = true := by rw [hl]; rfl
              (try conv=>whnf)<;>repeat'((first|exact sNo|refine sT ?_|refine sF ?_|((first|refine sD ?_ ?_|refine sE ?_ ?_|refine sN ?_ ?_|refine sG ?_ ?_)<;>intro ht<;>(first|(cases ht;done)|skip))|refine wr ?_|refine ix ?_|refine ati ?_|refine row ?_|refine app ?_|refine dr ?_|refine VBs.own ?_|refine cf r1 ?_|refine cg r1 ?_|refine cz r1 ?_|fail)<;>(try conv=>whnf))
              all_goals exact no hgi
            · rw [hl] at hgi
              have hl2 : (!Op.bytesLess (t.ks[i0]'(by omega)).1.toList t.ks[i].1.toList) = false := by rw [hl]; rfl
              cases b2
              all_goals simp only [Bool.false_eq_true, false_iff, true_iff] at hb2
              · cases b3
                · (try conv=>whnf)<;>repeat'((first|exact sNo|refine sT ?_|refine sF ?_|((first|refine sD ?_ ?_|refine sE ?_ ?_|refine sN ?_ ?_|refine sG ?_ ?_)<;>intro ht<;>(first|(cases ht;done)|skip))|refine wr ?_|refine ix ?_|refine ati ?_|refine row ?_|refine app ?_|refine dr ?_|refine VBs.own ?_|refine cf r1 ?_|refine cg r1 ?_|refine cz r1 ?_|refine cf r3 ?_|refine cg r3 ?_|refine cz r3 ?_|fail)<;>(try conv=>whnf))
                  all_goals exact no hgi
                · (try conv=>whnf)<;>repeat'((first|exact sNo|refine sT ?_|refine sF ?_|((first|refine sD ?_ ?_|refine sE ?_ ?_|refine sN ?_ ?_|refine sG ?_ ?_)<;>intro ht<;>(first|(cases ht;done)|skip))|refine wr ?_|refine ix ?_|refine ati ?_|refine row ?_|refine app ?_|refine dr ?_|refine VBs.own ?_|refine cf r1 ?_|refine cg r1 ?_|refine cz r1 ?_|refine cf r3 ?_|refine cg r3 ?_|refine cz r3 ?_|fail)<;>(try conv=>whnf))
                  all_goals exact VRd.mk rfl ⟨t.ks.length - (i + 1), by omega, i + 1, rfl, rfl, by omega, rfl, yes hgi⟩
              · (try conv=>whnf)<;>repeat'((first|exact sNo|refine sT ?_|refine sF ?_|((first|refine sD ?_ ?_|refine sE ?_ ?_|refine sN ?_ ?_|refine sG ?_ ?_)<;>intro ht<;>(first|(cases ht;done)|skip))|refine wr ?_|refine ix ?_|refine ati ?_|refine row ?_|refine app ?_|refine dr ?_|refine VBs.own ?_|refine cf r1 ?_|refine cg r1 ?_|refine cz r1 ?_|refine cf r3 ?_|refine cg r3 ?_|refine cz r3 ?_|fail)<;>(try conv=>whnf))
                all_goals exact no hgi
      · (try conv=>whnf)<;>repeat'((first|exact sNo|refine sT ?_|refine sF ?_|((first|refine sD ?_ ?_|refine sE ?_ ?_|refine sN ?_ ?_|refine sG ?_ ?_)<;>intro ht<;>(first|(cases ht;done)|skip))|refine wr ?_|refine ix ?_|refine ati ?_|refine row ?_|refine app ?_|refine dr ?_|refine VBs.own ?_|fail)<;>(try conv=>whnf))
        exact congrArg AV.bool (rightT_yes he fun j hj => hg j (by omega)).symm
theorem rtright_a (t : Tr8) (hc : cntT t ≤ 1000000) : AFnP Tryz.prog 96 [.agg [lstE entE t.es, lstE kidRow t.ks]] (.bool (rightT 5 t)) := by
  refine afnp_in ty_ok Tryz.call96 Tryz.func96 rfl rfl (by decide +kernel) ?_
  have r : AFnP Tryz.prog 120 [.agg [lstE entE t.es, lstE kidRow t.ks], i64 5] (.bool (rightT 5 t)) := rright_a 5 t (by omega) hc
  generalize rightT 5 t = b at *
  (try conv=>whnf)<;>repeat'((first|exact sNo|refine sT ?_|refine sF ?_|((first|refine sD ?_ ?_|refine sE ?_ ?_|refine sN ?_ ?_|refine sG ?_ ?_)<;>intro ht<;>(first|(cases ht;done)|skip))|refine wr ?_|refine ix ?_|refine ati ?_|refine row ?_|refine app ?_|refine dr ?_|refine VBs.own ?_|refine cf r ?_|refine cg r ?_|refine cz r ?_|fail)<;>(try conv=>whnf))
  all_goals rw [ht]
end Go.Proofs.YtlghgdgpbnlpmaaGreat
/- What is proved: what Same of package tree answers; trees that are alike are equal. Conditions: none. -/
namespace Go.Proofs.YtlghgdgpbnlpmaaGreat
open Go.RowKit
set_option linter.unusedVariables false
set_option linter.unusedSimpArgs false
set_option maxRecDepth 100000
set_option maxHeartbeats 16000000
theorem bytes_eq {a b : ByteArray} (h : a.toList = b.toList) : a = b := by
  rw [Go.Lib.toList_data, Go.Lib.toList_data] at h
  exact ByteArray.ext (Array.toList_inj.1 h)
theorem eqEnt_eq {a b : Ent8} (h : eqEnt a b = true) : a = b := by
  unfold eqEnt at h
  simp only [Bool.and_eq_true, beq_iff_eq] at h
  obtain ⟨h1, h2, h3, h4, -⟩ := h
  exact Prod.ext (Prod.ext h1 h2) (Prod.ext (bytes_eq h3) h4)
theorem eqEnt_refl (a : Ent8) : eqEnt a a = true := by unfold eqEnt; simp
theorem eqEs_eq {a b : List Ent8} (hl : a.length = b.length) (h : eqEs a b = true) : a = b := by
  apply List.ext_getElem hl
  intro i h1 h2
  have := List.all_eq_true.1 h i (List.mem_range.2 h1)
  rw [List.getElem?_eq_getElem h1, List.getElem?_eq_getElem h2] at this
  exact eqEnt_eq this
theorem eqEs_refl (a : List Ent8) : eqEs a a = true := all_yes fun i hi => by rw [List.getElem?_eq_getElem hi]; exact eqEnt_refl _
theorem sameT_eq : ∀ (d : Nat) (a b : Tr8), sameT d a b = true → a = b
  | 0, a, b, h => by cases h
  | d + 1, a, b, h => by
    rw [sameT] at h
    simp only [Bool.and_eq_true, decide_eq_true_eq] at h
    obtain ⟨⟨h1, h2⟩, h3, h4⟩ := h
    have e1 := eqEs_eq h1 h3
    have e2 : a.ks = b.ks := by
      apply List.ext_getElem h2
      intro i k1 k2
      have := List.all_eq_true.1 h4 i (List.mem_range.2 k1)
      rw [List.getElem?_eq_getElem k1, List.getElem?_eq_getElem k2] at this
      simp only [Bool.and_eq_true] at this
      exact Prod.ext (bytes_eq (by simpa [eqKey] using this.1)) (sameT_eq d _ _ this.2)
    cases a; cases b
    simp only [Tr8.es, Tr8.ks] at e1 e2
    rw [e1, e2]
theorem deepK_get {ks : List (ByteArray × Tr8)} {i : Nat} (hin : i < ks.length) : deepT ks[i].2 ≤ deepK ks := by
  have := deepK_take hin
  have h5 : deepK (ks.take (i + 1)) ≤ deepK ks := by
    have := deepK_append (ks.take (i + 1)) (ks.drop (i + 1))
    rw [List.take_append_drop] at this
    rw [this]; exact Nat.le_max_left _ _
  rw [this] at h5
  exact Nat.le_trans (Nat.le_max_right _ _) h5
theorem sameT_refl : ∀ (d : Nat) (a : Tr8), deepT a ≤ d → sameT d a a = true
  | 0, a, h => by rw [deepT_eq] at h; omega
  | d + 1, a, h => by
    rw [deepT_eq] at h
    rw [sameT, eqEs_refl]
    have : eqKs (sameT d) a.ks a.ks = true := all_yes fun i hi => by
      rw [List.getElem?_eq_getElem hi]
      have := deepK_get hi
      simp [eqKey, sameT_refl d a.ks[i].2 (by omega)]
    rw [this]
    simp
/-! depth -/
theorem roomK_in {f : Tr8 → Int → Int} {stop : Bool} : ∀ (ks : List (ByteArray × Tr8)) (l : Int), 0 ≤ roomK f stop ks l → ∀ x ∈ ks, stop = false ∧ ∃ l', 0 ≤ l' ∧ 0 ≤ f x.2 l'
  | [], l, _, x, hx => by cases hx
  | y :: r, l, h, x, hx => by
    rw [roomK] at h
    split at h
    · omega
    · rename_i hl
      simp only [not_or, Bool.not_eq_true] at hl
      have h0 : 0 ≤ f y.2 l := by
        cases r with
        | nil => simpa [roomK] using h
        | cons z r =>
          rw [roomK] at h
          split at h
          · omega
          · rename_i h3; simp only [not_or] at h3; omega
      rcases List.mem_cons.1 hx with rfl | hx
      · exact ⟨hl.2, l, by omega, h0⟩
      · exact roomK_in r _ h x hx
theorem roomT_deep : ∀ (d : Nat) (t : Tr8) (l : Int), 0 ≤ roomT d t l → deepT t ≤ d + 1
  | 0, t, l, h => by
    rw [roomT] at h
    rw [deepT_eq]
    have : deepK t.ks ≤ 0 := deepK_le fun x hx => by have := (roomK_in _ _ h x hx).1; cases this
    omega
  | d + 1, t, l, h => by
    rw [roomT] at h
    rw [deepT_eq]
    have : deepK t.ks ≤ d + 1 := deepK_le fun x hx => by
      obtain ⟨-, l', -, h2⟩ := roomK_in _ _ h x hx
      exact roomT_deep d x.2 l' h2
    omega
theorem small_deep {t : Tr8} {l : Int} (h : decide (0 ≤ roomT 8 t l) = true) : deepT t ≤ 9 := roomT_deep 8 t l (of_decide_eq_true h)
theorem equalE_a (a b : List Ent8) (ha : a.length ≤ 1000000) (hb : b.length ≤ 1000000) : AFnP Tryz.prog 142 [lstE entE a, lstE entE b] (.bool (decide (a.length = b.length) && eqEs a b)) := by
  refine afnp_in ty_ok Tryz.call142 Tryz.func142 rfl rfl (by decide +kernel) ?_
  by_cases hl : a.length = b.length
  · rw [decide_eq_true hl, Bool.true_and]
    (try conv=>whnf)<;>repeat'((first|exact sNo|refine sT ?_|refine sF ?_|((first|refine sD ?_ ?_|refine sE ?_ ?_|refine sN ?_ ?_|refine sG ?_ ?_)<;>intro ht<;>(first|(cases ht;done)|skip))|refine wr ?_|refine ix ?_|refine ati ?_|refine row ?_|refine app ?_|refine dr ?_|refine VBs.own ?_|fail)<;>(try conv=>whnf))
    refine VLp.mk ⟨[], [], [13], fun k vs h => ∃ i : Nat, vs = [i64 i] ∧ h = [] ∧ i ≤ a.length ∧ k = a.length - i ∧ ∀ j (hj : j < i) (h3 : j < a.length) (h4 : j < b.length), eqEnt a[j] b[j] = true, a.length, ?_⟩
    conv => whnf
    refine ⟨⟨0, rfl, rfl, by omega, by omega, fun j hj => by omega⟩, ?_⟩
    rintro k vs h ⟨i, rfl, rfl, hi, rfl, hg⟩
    by_cases hin : i < a.length
    · have hin2 : i < b.length := by omega
      cases he : eqEnt a[i] b[i]
      · have hE : eqEs a b = false := all_no hin (by rw [List.getElem?_eq_getElem hin, List.getElem?_eq_getElem hin2]; exact he)
        rw [hE]
        unfold eqEnt at he
        (try conv=>whnf)<;>repeat'((first|exact sNo|refine sT ?_|refine sF ?_|((first|refine sD ?_ ?_|refine sE ?_ ?_|refine sN ?_ ?_|refine sG ?_ ?_)<;>intro ht<;>(first|(cases ht;done)|skip))|refine wr ?_|refine ix ?_|refine ati ?_|refine row ?_|refine app ?_|refine dr ?_|refine VBs.own ?_|fail)<;>(try conv=>whnf))
        all_goals first
          | rfl
          | (exfalso; rw [he] at ht; cases ht)
      · have hstep : ∀ j (hj : j < i + 1) (h3 : j < a.length) (h4 : j < b.length), eqEnt a[j] b[j] = true := fun j hj h3 h4 => by rcases Nat.lt_succ_iff_lt_or_eq.1 hj with h | rfl; exact hg j h h3 h4; exact he
        unfold eqEnt at he
        (try conv=>whnf)<;>repeat'((first|exact sNo|refine sT ?_|refine sF ?_|((first|refine sD ?_ ?_|refine sE ?_ ?_|refine sN ?_ ?_|refine sG ?_ ?_)<;>intro ht<;>(first|(cases ht;done)|skip))|refine wr ?_|refine ix ?_|refine ati ?_|refine row ?_|refine app ?_|refine dr ?_|refine VBs.own ?_|fail)<;>(try conv=>whnf))
        all_goals first
          | exact VRd.mk rfl ⟨a.length - (i + 1), by omega, i + 1, rfl, rfl, by omega, rfl, hstep⟩
          | (exfalso; rw [he] at ht; cases ht)
    · have hE : eqEs a b = true := all_yes fun j hj => by rw [List.getElem?_eq_getElem hj, List.getElem?_eq_getElem (show j < b.length by omega)]; exact hg j (by omega) hj (by omega)
      rw [hE]
      (try conv=>whnf)<;>repeat'((first|exact sNo|refine sT ?_|refine sF ?_|((first|refine sD ?_ ?_|refine sE ?_ ?_|refine sN ?_ ?_|refine sG ?_ ?_)<;>intro ht<;>(first|(cases ht;done)|skip))|refine wr ?_|refine ix ?_|refine ati ?_|refine row ?_|refine app ?_|refine dr ?_|refine VBs.own ?_|fail)<;>(try conv=>whnf))
  · rw [decide_eq_false hl, Bool.false_and]
    (try conv=>whnf)<;>repeat'((first|exact sNo|refine sT ?_|refine sF ?_|((first|refine sD ?_ ?_|refine sE ?_ ?_|refine sN ?_ ?_|refine sG ?_ ?_)<;>intro ht<;>(first|(cases ht;done)|skip))|refine wr ?_|refine ix ?_|refine ati ?_|refine row ?_|refine app ?_|refine dr ?_|refine VBs.own ?_|fail)<;>(try conv=>whnf))
theorem equalF_a (a b : List (ByteArray × Tr8)) (ha : a.length ≤ 1000000) (hb : b.length ≤ 1000000) {g : Nat} (p : ByteArray × Tr8 → ByteArray × Tr8 → Bool) (hp : ∀ x ∈ a, ∀ y ∈ b, AFnP Tryz.prog g [.agg (kidE x), .agg (kidE y)] (.bool (p x y))) : AFnP Tryz.prog 143 [lstE kidE a, lstE kidE b, .fn g []] (.bool (decide (a.length = b.length) && (List.range a.length).all fun i => match a[i]?, b[i]? with | some x, some y => p x y | _, _ => false)) := by
  refine afnp_in ty_ok Tryz.call143 Tryz.func143 rfl rfl (by decide +kernel) ?_
  by_cases hl : a.length = b.length
  · rw [decide_eq_true hl, Bool.true_and]
    (try conv=>whnf)<;>repeat'((first|exact sNo|refine sT ?_|refine sF ?_|((first|refine sD ?_ ?_|refine sE ?_ ?_|refine sN ?_ ?_|refine sG ?_ ?_)<;>intro ht<;>(first|(cases ht;done)|skip))|refine wr ?_|refine ix ?_|refine ati ?_|refine row ?_|refine app ?_|refine dr ?_|refine VBs.own ?_|fail)<;>(try conv=>whnf))
    refine VLp.mk ⟨[], [], [17], fun k vs h => ∃ i : Nat, vs = [i64 i] ∧ h = [] ∧ i ≤ a.length ∧ k = a.length - i ∧ ∀ j (hj : j < i) (h3 : j < a.length) (h4 : j < b.length), p a[j] b[j] = true, a.length, ?_⟩
    conv => whnf
    refine ⟨⟨0, rfl, rfl, by omega, by omega, fun j hj => by omega⟩, ?_⟩
    rintro k vs h ⟨i, rfl, rfl, hi, rfl, hg⟩
    by_cases hin : i < a.length
    · have hin2 : i < b.length := by omega
      have r := hp a[i] (List.getElem_mem hin) b[i] (List.getElem_mem hin2)
      have hno : p a[i] b[i] = false → ((List.range a.length).all fun i => match a[i]?, b[i]? with | some x, some y => p x y | _, _ => false) = false := fun h => all_no hin (by rw [List.getElem?_eq_getElem hin, List.getElem?_eq_getElem hin2]; exact h)
      have hstep : p a[i] b[i] = true → ∀ j (hj : j < i + 1) (h3 : j < a.length) (h4 : j < b.length), p a[j] b[j] = true := fun he j hj h3 h4 => by rcases Nat.lt_succ_iff_lt_or_eq.1 hj with h | rfl; exact hg j h h3 h4; exact he
      generalize p a[i] b[i] = q at *
      cases q
      · rw [hno rfl]
        (try conv=>whnf)<;>repeat'((first|exact sNo|refine sT ?_|refine sF ?_|((first|refine sD ?_ ?_|refine sE ?_ ?_|refine sN ?_ ?_|refine sG ?_ ?_)<;>intro ht<;>(first|(cases ht;done)|skip))|refine wr ?_|refine ix ?_|refine ati ?_|refine row ?_|refine app ?_|refine dr ?_|refine VBs.own ?_|refine cf r ?_|refine cg r ?_|refine cz r ?_|fail)<;>(try conv=>whnf))
      · (try conv=>whnf)<;>repeat'((first|exact sNo|refine sT ?_|refine sF ?_|((first|refine sD ?_ ?_|refine sE ?_ ?_|refine sN ?_ ?_|refine sG ?_ ?_)<;>intro ht<;>(first|(cases ht;done)|skip))|refine wr ?_|refine ix ?_|refine ati ?_|refine row ?_|refine app ?_|refine dr ?_|refine VBs.own ?_|refine cf r ?_|refine cg r ?_|refine cz r ?_|fail)<;>(try conv=>whnf))
        all_goals exact VRd.mk rfl ⟨a.length - (i + 1), by omega, i + 1, rfl, rfl, by omega, rfl, hstep rfl⟩
    · have hE : ((List.range a.length).all fun i => match a[i]?, b[i]? with | some x, some y => p x y | _, _ => false) = true := all_yes fun j hj => by rw [List.getElem?_eq_getElem hj, List.getElem?_eq_getElem (show j < b.length by omega)]; exact hg j (by omega) hj (by omega)
      rw [hE]
      (try conv=>whnf)<;>repeat'((first|exact sNo|refine sT ?_|refine sF ?_|((first|refine sD ?_ ?_|refine sE ?_ ?_|refine sN ?_ ?_|refine sG ?_ ?_)<;>intro ht<;>(first|(cases ht;done)|skip))|refine wr ?_|refine ix ?_|refine ati ?_|refine row ?_|refine app ?_|refine dr ?_|refine VBs.own ?_|fail)<;>(try conv=>whnf))
  · rw [decide_eq_false hl, Bool.false_and]
    (try conv=>whnf)<;>repeat'((first|exact sNo|refine sT ?_|refine sF ?_|((first|refine sD ?_ ?_|refine sE ?_ ?_|refine sN ?_ ?_|refine sG ?_ ?_)<;>intro ht<;>(first|(cases ht;done)|skip))|refine wr ?_|refine ix ?_|refine ati ?_|refine row ?_|refine app ?_|refine dr ?_|refine VBs.own ?_|fail)<;>(try conv=>whnf))
theorem same1_a {x y : ByteArray × Tr8} {b : Bool} (h : AFnP Tryz.prog 127 [.agg [lstE entE x.2.es, lstE kidRow x.2.ks], .agg [lstE entE y.2.es, lstE kidRow y.2.ks]] (.bool b)) : AFnP Tryz.prog 144 [.agg (kidE x), .agg (kidE y)] (.bool (eqKey x.1 y.1 && b)) := by
  refine afnp_in ty_ok Tryz.call144 Tryz.func144 rfl rfl (by decide +kernel) ?_
  by_cases hk : x.1.toList = y.1.toList
  · have hk2 : eqKey x.1 y.1 = true := by unfold eqKey; rw [hk]; exact beq_self_eq_true _
    rw [hk2, Bool.true_and]
    (try conv=>whnf)<;>repeat'((first|exact sNo|refine sT ?_|refine sF ?_|((first|refine sD ?_ ?_|refine sE ?_ ?_|refine sN ?_ ?_|refine sG ?_ ?_)<;>intro ht<;>(first|(cases ht;done)|skip))|refine wr ?_|refine ix ?_|refine ati ?_|refine row ?_|refine app ?_|refine dr ?_|refine VBs.own ?_|refine cf h ?_|refine cg h ?_|refine cz h ?_|fail)<;>(try conv=>whnf))
    all_goals first
      | exact absurd hk (by assumption)
      | (rw [ht])
  · have hk2 : eqKey x.1 y.1 = false := by unfold eqKey; exact beq_eq_false_iff_ne.2 hk
    rw [hk2, Bool.false_and]
    (try conv=>whnf)<;>repeat'((first|exact sNo|refine sT ?_|refine sF ?_|((first|refine sD ?_ ?_|refine sE ?_ ?_|refine sN ?_ ?_|refine sG ?_ ?_)<;>intro ht<;>(first|(cases ht;done)|skip))|refine wr ?_|refine ix ?_|refine ati ?_|refine row ?_|refine app ?_|refine dr ?_|refine VBs.own ?_|refine cf h ?_|refine cg h ?_|refine cz h ?_|fail)<;>(try conv=>whnf))
    all_goals first
      | rfl
      | (exfalso; exact hk (by assumption))
theorem tsame_a : ∀ (d : Nat) (a b : Tr8), deepT a ≤ d → cntT a ≤ 1000000 → cntT b ≤ 1000000 → AFnP Tryz.prog 127 [.agg [lstE entE a.es, lstE kidRow a.ks], .agg [lstE entE b.es, lstE kidRow b.ks]] (.bool (sameT d a b))
  | 0, a, b, hd, ha, hb => by rw [deepT_eq] at hd; omega
  | d + 1, a, b, hd, ha, hb => by
    have ih := tsame_a d
    have ca := cntT_eq a
    have cb := cntT_eq b
    rw [deepT_eq] at hd
    have r1 := equalE_a a.es b.es (by omega) (by omega)
    have r2 := equalF_a a.ks b.ks (by omega) (by omega) (g := 144) (fun x y => eqKey x.1 y.1 && sameT d x.2 y.2) (fun x hx y hy => by
      have m1 := cntK_mem hx
      have m2 := cntK_mem hy
      obtain ⟨i, hi, rfl⟩ := List.getElem_of_mem hx
      have m3 := deepK_get hi
      exact same1_a (ih _ _ (by omega) (by omega) (by omega)))
    have hs : sameT (d + 1) a b = ((decide (a.es.length = b.es.length) && eqEs a.es b.es) && (decide (a.ks.length = b.ks.length) && eqKs (sameT d) a.ks b.ks)) := by
      rw [sameT]
      cases decide (a.es.length = b.es.length) <;> cases decide (a.ks.length = b.ks.length) <;> cases eqEs a.es b.es <;> cases eqKs (sameT d) a.ks b.ks <;> rfl
    have r2 : AFnP Tryz.prog 143 [lstE kidE a.ks, lstE kidE b.ks, .fn 144 []] (.bool (decide (a.ks.length = b.ks.length) && eqKs (sameT d) a.ks b.ks)) := r2
    rw [kidRow_fun, hs]
    generalize (decide (a.es.length = b.es.length) && eqEs a.es b.es) = x at *
    generalize (decide (a.ks.length = b.ks.length) && eqKs (sameT d) a.ks b.ks) = y at *
    refine afnp_in ty_ok Tryz.call127 Tryz.func127 rfl rfl (by decide +kernel) ?_
    cases x
    · (try conv=>whnf)<;>repeat'((first|exact sNo|refine sT ?_|refine sF ?_|((first|refine sD ?_ ?_|refine sE ?_ ?_|refine sN ?_ ?_|refine sG ?_ ?_)<;>intro ht<;>(first|(cases ht;done)|skip))|refine wr ?_|refine ix ?_|refine ati ?_|refine row ?_|refine app ?_|refine dr ?_|refine VBs.own ?_|refine cf r1 ?_|refine cg r1 ?_|refine cz r1 ?_|fail)<;>(try conv=>whnf))
      all_goals rfl
    · (try conv=>whnf)<;>repeat'((first|exact sNo|refine sT ?_|refine sF ?_|((first|refine sD ?_ ?_|refine sE ?_ ?_|refine sN ?_ ?_|refine sG ?_ ?_)<;>intro ht<;>(first|(cases ht;done)|skip))|refine wr ?_|refine ix ?_|refine ati ?_|refine row ?_|refine app ?_|refine dr ?_|refine VBs.own ?_|refine cf r1 ?_|refine cg r1 ?_|refine cz r1 ?_|refine cf r2 ?_|refine cg r2 ?_|refine cz r2 ?_|fail)<;>(try conv=>whnf))
      all_goals (rw [ht]; rfl)
theorem Same_p (a b : Tr8) (ha : cntT a ≤ 1000000) (hb : cntT b ≤ 1000000) {t : Bool} (ht : (rightT 5 a && (rightT 5 b && sameT 5 a b)) = t) : AFnP Tryz.prog 103 [.agg [lstE entE a.es, lstE kidRow a.ks], .agg [lstE entE b.es, lstE kidRow b.ks]] (.bool t) := by
  subst ht
  have r1 := tright_a a ha
  have r2 := tright_a b hb
  have r3 : rightT 5 a = true → AFnP Tryz.prog 127 [.agg [lstE entE a.es, lstE kidRow a.ks], .agg [lstE entE b.es, lstE kidRow b.ks]] (.bool (sameT 5 a b)) := fun h => tsame_a 5 a b (deepT_le 5 a h) ha hb
  generalize sameT 5 a b = z at *
  refine afnp_in ty_ok Tryz.call103 Tryz.func103 rfl rfl (by decide +kernel) ?_
  cases h1 : rightT 5 a
  · rw [h1] at r1
    (try conv=>whnf)<;>repeat'((first|exact sNo|refine sT ?_|refine sF ?_|((first|refine sD ?_ ?_|refine sE ?_ ?_|refine sN ?_ ?_|refine sG ?_ ?_)<;>intro ht<;>(first|(cases ht;done)|skip))|refine wr ?_|refine ix ?_|refine ati ?_|refine row ?_|refine app ?_|refine dr ?_|refine VBs.own ?_|refine cf r1 ?_|refine cg r1 ?_|refine cz r1 ?_|fail)<;>(try conv=>whnf))
    all_goals rfl
  · rw [h1] at r1
    have r3 := r3 h1
    cases h2 : rightT 5 b
    · rw [h2] at r2
      by_cases hab : a = b
      · subst hab; rw [h1] at h2; cases h2
      · (try conv=>whnf)<;>repeat'((first|exact sNo|refine sT ?_|refine sF ?_|((first|refine sD ?_ ?_|refine sE ?_ ?_|refine sN ?_ ?_|refine sG ?_ ?_)<;>intro ht<;>(first|(cases ht;done)|skip))|refine wr ?_|refine ix ?_|refine ati ?_|refine row ?_|refine app ?_|refine dr ?_|refine VBs.own ?_|refine cf r1 ?_|refine cg r1 ?_|refine cz r1 ?_|refine cf r2 ?_|refine cg r2 ?_|refine cz r2 ?_|fail)<;>(try conv=>whnf))
        all_goals rfl
    · rw [h2] at r2
      (try conv=>whnf)<;>repeat'((first|exact sNo|refine sT ?_|refine sF ?_|((first|refine sD ?_ ?_|refine sE ?_ ?_|refine sN ?_ ?_|refine sG ?_ ?_)<;>intro ht<;>(first|(cases ht;done)|skip))|refine wr ?_|refine ix ?_|refine ati ?_|refine row ?_|refine app ?_|refine dr ?_|refine VBs.own ?_|refine cf r1 ?_|refine cg r1 ?_|refine cz r1 ?_|refine cf r2 ?_|refine cg r2 ?_|refine cz r2 ?_|refine cf r3 ?_|refine cg r3 ?_|refine cz r3 ?_|fail)<;>(try conv=>whnf))
      all_goals (rw [ht]; rfl)
end Go.Proofs.YtlghgdgpbnlpmaaGreat
