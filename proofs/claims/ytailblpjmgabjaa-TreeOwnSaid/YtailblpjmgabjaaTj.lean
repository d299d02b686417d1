/- What is proved: what Same of chapter 08's reference and awake of its law answer. Conditions: none. -/
import Derived.Test.YtailblpjmgabjaaTi
namespace Go.Proofs.Ytailblpjmgabjaa
open Go.RowKit
set_option linter.unusedVariables false
set_option linter.unusedSimpArgs false
set_option maxRecDepth 100000
set_option maxHeartbeats 16000000
def eqEnt (a b : Ent8) : Bool := a.1.1 == b.1.1 && (a.1.2 == b.1.2 && (a.2.1.toList == b.2.1.toList && (a.2.2 == b.2.2 && true)))
def eqEs (a b : List Ent8) : Bool := (List.range a.length).all fun i => match a[i]?, b[i]? with | some x, some y => eqEnt x y | _, _ => false
def eqKs (f : Tr8 → Tr8 → Bool) (a b : List (ByteArray × Tr8)) : Bool := (List.range a.length).all fun i => match a[i]?, b[i]? with | some x, some y => eqKey x.1 y.1 && f x.2 y.2 | _, _ => false
/-- are all alike, up to some depth? -/
def sameT : Nat → Tr8 → Tr8 → Bool
  | 0, _, _ => false
  | d + 1, a, b => (decide (a.es.length = b.es.length) && decide (a.ks.length = b.ks.length)) && (eqEs a.es b.es && eqKs (sameT d) a.ks b.ks)
theorem all_no {n i : Nat} {p : Nat → Bool} (hi : i < n) (h : p i = false) : (List.range n).all p = false := by rw [List.all_eq_false]; exact ⟨i, List.mem_range.2 hi, by rw [h]; decide⟩
theorem all_yes {n : Nat} {p : Nat → Bool} (h : ∀ i, i < n → p i = true) : (List.range n).all p = true := by rw [List.all_eq_true]; intro i hi; exact h i (List.mem_range.1 hi)
theorem same_a : ∀ (d : Nat) (a b : Tr8), deepT a ≤ d → cntT a ≤ 1000000 → cntT b ≤ 1000000 → AFnP Try.prog 17 [.agg [lstE entE a.es, lstE kidRow a.ks], .agg [lstE entE b.es, lstE kidRow b.ks]] (.bool (sameT d a b))
  | 0, a, b, hd, ha, hb => by rw [deepT_eq] at hd; omega
  | d + 1, a, b, hd, ha, hb => by
    have ih := same_a d
    rw [kidRow_fun]
    refine afnp_in ty_ok Try.call17 Try.func17 rfl rfl (by decide +kernel) ?_
    have ca := cntT_eq a
    have cb := cntT_eq b
    rw [deepT_eq] at hd
    have no : ∀ {x : Bool}, sameT (d + 1) a b = x → x = false → AV.bool false = AV.bool (sameT (d + 1) a b) := fun h h2 => by rw [h, h2]
    by_cases h1 : a.es.length = b.es.length
    · by_cases h2 : a.ks.length = b.ks.length
      · have hs : sameT (d + 1) a b = (eqEs a.es b.es && eqKs (sameT d) a.ks b.ks) := by rw [sameT, decide_eq_true h1, decide_eq_true h2]; rfl
        (try conv=>whnf)<;>repeat'((first|exact sNo|refine sT ?_|refine sF ?_|((first|refine sD ?_ ?_|refine sE ?_ ?_|refine sN ?_ ?_|refine sG ?_ ?_)<;>intro ht<;>(first|(cases ht;done)|skip))|refine wr ?_|refine ix ?_|refine ati ?_|refine row ?_|refine app ?_|refine dr ?_|refine VAnd.mk ?_ ?_|exact VJe.mk rfl ⟨rfl,rfl⟩|refine .inl (slM ?_)|refine .inl (slO ?_)|refine slM ?_|refine slO ?_|refine slN ?_|refine slS ?_|refine swB (swM fun C hC=>?_)|refine sj ?_|refine .inl (sv ?_)|refine sv ?_|refine cl ?_|refine s3 ?_|refine az ?_|refine rm ?_|refine VBs.own ?_|fail)<;>(try conv=>whnf))
        refine VLp.mk ⟨[], [2, 3], [26], fun k vs h => ∃ i : Nat, vs = [i64 i] ∧ h = [.blk 0 [lstE entE a.es, lstE kidE a.ks] 25, .blk 1 [lstE entE b.es, lstE kidE b.ks] 25] ∧ i ≤ a.es.length ∧ k = a.es.length - i ∧ ∀ j (hj : j < i) (h3 : j < a.es.length) (h4 : j < b.es.length), eqEnt a.es[j] b.es[j] = true, a.es.length, ?_⟩
        conv => whnf
        refine ⟨⟨0, rfl, rfl, by omega, by omega, fun j hj => by omega⟩, ?_⟩
        rintro k vs h ⟨i, rfl, rfl, hi, rfl, hg⟩
        by_cases hin : i < a.es.length
        · have hin2 : i < b.es.length := by omega
          cases he : eqEnt a.es[i] b.es[i]
          · have hE : eqEs a.es b.es = false := all_no hin (by rw [List.getElem?_eq_getElem hin, List.getElem?_eq_getElem hin2]; exact he)
            rw [hE, Bool.false_and] at hs
            unfold eqEnt at he
            have he2 := congrArg (fun x => !x) he
            (try conv=>whnf)<;>repeat'((first|exact sNo|refine sT ?_|refine sF ?_|((first|refine sD ?_ ?_|refine sE ?_ ?_|refine sN ?_ ?_|refine sG ?_ ?_)<;>intro ht<;>(first|(cases ht;done)|skip))|refine wr ?_|refine ix ?_|refine ati ?_|refine row ?_|refine app ?_|refine dr ?_|refine VAnd.mk ?_ ?_|exact VJe.mk rfl ⟨rfl,rfl⟩|refine .inl (slM ?_)|refine .inl (slO ?_)|refine slM ?_|refine slO ?_|refine slN ?_|refine slS ?_|refine swB (swM fun C hC=>?_)|refine sj ?_|refine .inl (sv ?_)|refine sv ?_|refine cl ?_|refine s3 ?_|refine az ?_|refine rm ?_|refine VBs.own ?_|fail)<;>(try conv=>whnf))
            all_goals first
              | exact no hs rfl
              | (exfalso; rw [he] at ht; cases ht)
          · have hstep : ∀ j (hj : j < i + 1) (h3 : j < a.es.length) (h4 : j < b.es.length), eqEnt a.es[j] b.es[j] = true := fun j hj h3 h4 => by rcases Nat.lt_succ_iff_lt_or_eq.1 hj with h | rfl; exact hg j h h3 h4; exact he
            unfold eqEnt at he
            (try conv=>whnf)<;>repeat'((first|exact sNo|refine sT ?_|refine sF ?_|((first|refine sD ?_ ?_|refine sE ?_ ?_|refine sN ?_ ?_|refine sG ?_ ?_)<;>intro ht<;>(first|(cases ht;done)|skip))|refine wr ?_|refine ix ?_|refine ati ?_|refine row ?_|refine app ?_|refine dr ?_|refine VAnd.mk ?_ ?_|exact VJe.mk rfl ⟨rfl,rfl⟩|refine .inl (slM ?_)|refine .inl (slO ?_)|refine slM ?_|refine slO ?_|refine slN ?_|refine slS ?_|refine swB (swM fun C hC=>?_)|refine sj ?_|refine .inl (sv ?_)|refine sv ?_|refine cl ?_|refine s3 ?_|refine az ?_|refine rm ?_|refine VBs.own ?_|fail)<;>(try conv=>whnf))
            all_goals first
              | exact VRd.mk rfl ⟨a.es.length - (i + 1), by omega, i + 1, rfl, rfl, by omega, rfl, hstep⟩
              | (exfalso; rw [he] at ht; cases ht)
        · have hE : eqEs a.es b.es = true := all_yes fun j hj => by rw [List.getElem?_eq_getElem hj, List.getElem?_eq_getElem (show j < b.es.length by omega)]; exact hg j (by omega) hj (by omega)
          rw [hE, Bool.true_and] at hs
          clear hg
          (try conv=>whnf)<;>repeat'((first|exact sNo|refine sT ?_|refine sF ?_|((first|refine sD ?_ ?_|refine sE ?_ ?_|refine sN ?_ ?_|refine sG ?_ ?_)<;>intro ht<;>(first|(cases ht;done)|skip))|refine wr ?_|refine ix ?_|refine ati ?_|refine row ?_|refine app ?_|refine dr ?_|refine VAnd.mk ?_ ?_|exact VJe.mk rfl ⟨rfl,rfl⟩|refine .inl (slM ?_)|refine .inl (slO ?_)|refine slM ?_|refine slO ?_|refine slN ?_|refine slS ?_|refine swB (swM fun C hC=>?_)|refine sj ?_|refine .inl (sv ?_)|refine sv ?_|refine cl ?_|refine s3 ?_|refine az ?_|refine rm ?_|refine VBs.own ?_|fail)<;>(try conv=>whnf))
          refine VLp.mk ⟨[], [2, 3], [44], fun k vs h => ∃ i : Nat, vs = [i64 i] ∧ h = [.blk 0 [lstE entE a.es, lstE kidE a.ks] 25, .blk 1 [lstE entE b.es, lstE kidE b.ks] 25] ∧ i ≤ a.ks.length ∧ k = a.ks.length - i ∧ ∀ j (hj : j < i) (h3 : j < a.ks.length) (h4 : j < b.ks.length), (eqKey a.ks[j].1 b.ks[j].1 && sameT d a.ks[j].2 b.ks[j].2) = true, a.ks.length, ?_⟩
          conv => whnf
          refine ⟨⟨0, rfl, rfl, by omega, by omega, fun j hj => by omega⟩, ?_⟩
          rintro k vs h ⟨i, rfl, rfl, hi, rfl, hg⟩
          by_cases hin : i < a.ks.length
          · have hin2 : i < b.ks.length := by omega
            have m1 := cntK_mem (List.getElem_mem hin)
            have m2 := cntK_mem (List.getElem_mem hin2)
            have m3 : deepT a.ks[i].2 ≤ deepK a.ks := by
              have := deepK_take hin
              have h5 : deepK (a.ks.take (i + 1)) ≤ deepK a.ks := by
                have := deepK_append (a.ks.take (i + 1)) (a.ks.drop (i + 1))
                rw [List.take_append_drop] at this
                rw [this]; exact Nat.le_max_left _ _
              rw [this] at h5
              exact Nat.le_trans (Nat.le_max_right _ _) h5
            have r := ih a.ks[i].2 b.ks[i].2 (by omega) (by omega) (by omega)
            have hno : (eqKey a.ks[i].1 b.ks[i].1 && sameT d a.ks[i].2 b.ks[i].2) = false → eqKs (sameT d) a.ks b.ks = false := fun h => all_no hin (by rw [List.getElem?_eq_getElem hin, List.getElem?_eq_getElem hin2]; exact h)
            have hstep : (eqKey a.ks[i].1 b.ks[i].1 && sameT d a.ks[i].2 b.ks[i].2) = true → ∀ j (hj : j < i + 1) (h3 : j < a.ks.length) (h4 : j < b.ks.length), (eqKey a.ks[j].1 b.ks[j].1 && sameT d a.ks[j].2 b.ks[j].2) = true := fun he j hj h3 h4 => by rcases Nat.lt_succ_iff_lt_or_eq.1 hj with h | rfl; exact hg j h h3 h4; exact he
            generalize sameT d a.ks[i].2 b.ks[i].2 = st at *
            by_cases hk : a.ks[i].1.toList = b.ks[i].1.toList
            · have hk2 : eqKey a.ks[i].1 b.ks[i].1 = true := by unfold eqKey; rw [hk]; exact beq_self_eq_true _
              rw [hk2, Bool.true_and] at hno hstep
              cases st
              · rw [hno rfl] at hs
                (try conv=>whnf)<;>repeat'((first|exact sNo|refine sT ?_|refine sF ?_|((first|refine sD ?_ ?_|refine sE ?_ ?_|refine sN ?_ ?_|refine sG ?_ ?_)<;>intro ht<;>(first|(cases ht;done)|skip))|refine wr ?_|refine ix ?_|refine ati ?_|refine row ?_|refine app ?_|refine dr ?_|refine VAnd.mk ?_ ?_|exact VJe.mk rfl ⟨rfl,rfl⟩|refine .inl (slM ?_)|refine .inl (slO ?_)|refine slM ?_|refine slO ?_|refine slN ?_|refine slS ?_|refine swB (swM fun C hC=>?_)|refine sj ?_|refine .inl (sv ?_)|refine sv ?_|refine cl ?_|refine s3 ?_|refine az ?_|refine rm ?_|refine VBs.own ?_|refine cf r ?_|refine cg r ?_|refine cz r ?_|fail)<;>(try conv=>whnf))
                all_goals exact no hs rfl
              · (try conv=>whnf)<;>repeat'((first|exact sNo|refine sT ?_|refine sF ?_|((first|refine sD ?_ ?_|refine sE ?_ ?_|refine sN ?_ ?_|refine sG ?_ ?_)<;>intro ht<;>(first|(cases ht;done)|skip))|refine wr ?_|refine ix ?_|refine ati ?_|refine row ?_|refine app ?_|refine dr ?_|refine VAnd.mk ?_ ?_|exact VJe.mk rfl ⟨rfl,rfl⟩|refine .inl (slM ?_)|refine .inl (slO ?_)|refine slM ?_|refine slO ?_|refine slN ?_|refine slS ?_|refine swB (swM fun C hC=>?_)|refine sj ?_|refine .inl (sv ?_)|refine sv ?_|refine cl ?_|refine s3 ?_|refine az ?_|refine rm ?_|refine VBs.own ?_|refine cf r ?_|refine cg r ?_|refine cz r ?_|fail)<;>(try conv=>whnf))
                all_goals first
                  | exact absurd hk (by assumption)
                  | exact VRd.mk rfl ⟨a.ks.length - (i + 1), by omega, i + 1, rfl, rfl, by omega, rfl, hstep rfl⟩
            · have hk2 : eqKey a.ks[i].1 b.ks[i].1 = false := by unfold eqKey; exact beq_eq_false_iff_ne.2 hk
              rw [hk2, Bool.false_and] at hno
              rw [hno rfl] at hs
              (try conv=>whnf)<;>repeat'((first|exact sNo|refine sT ?_|refine sF ?_|((first|refine sD ?_ ?_|refine sE ?_ ?_|refine sN ?_ ?_|refine sG ?_ ?_)<;>intro ht<;>(first|(cases ht;done)|skip))|refine wr ?_|refine ix ?_|refine ati ?_|refine row ?_|refine app ?_|refine dr ?_|refine VAnd.mk ?_ ?_|exact VJe.mk rfl ⟨rfl,rfl⟩|refine .inl (slM ?_)|refine .inl (slO ?_)|refine slM ?_|refine slO ?_|refine slN ?_|refine slS ?_|refine swB (swM fun C hC=>?_)|refine sj ?_|refine .inl (sv ?_)|refine sv ?_|refine cl ?_|refine s3 ?_|refine az ?_|refine rm ?_|refine VBs.own ?_|refine cf r ?_|refine cg r ?_|refine cz r ?_|fail)<;>(try conv=>whnf))
              all_goals first
                | exact no hs rfl
                | (exfalso; exact hk (by assumption))
          · have hK : eqKs (sameT d) a.ks b.ks = true := all_yes fun j hj => by rw [List.getElem?_eq_getElem hj, List.getElem?_eq_getElem (show j < b.ks.length by omega)]; exact hg j (by omega) hj (by omega)
            rw [hK] at hs
            (try conv=>whnf)<;>repeat'((first|exact sNo|refine sT ?_|refine sF ?_|((first|refine sD ?_ ?_|refine sE ?_ ?_|refine sN ?_ ?_|refine sG ?_ ?_)<;>intro ht<;>(first|(cases ht;done)|skip))|refine wr ?_|refine ix ?_|refine ati ?_|refine row ?_|refine app ?_|refine dr ?_|refine VAnd.mk ?_ ?_|exact VJe.mk rfl ⟨rfl,rfl⟩|refine .inl (slM ?_)|refine .inl (slO ?_)|refine slM ?_|refine slO ?_|refine slN ?_|refine slS ?_|refine swB (swM fun C hC=>?_)|refine sj ?_|refine .inl (sv ?_)|refine sv ?_|refine cl ?_|refine s3 ?_|refine az ?_|refine rm ?_|refine VBs.own ?_|fail)<;>(try conv=>whnf))
            exact congrArg AV.bool hs.symm
      · have hs : sameT (d + 1) a b = false := by rw [sameT, decide_eq_false h2, Bool.and_false, Bool.false_and]
        (try conv=>whnf)<;>repeat'((first|exact sNo|refine sT ?_|refine sF ?_|((first|refine sD ?_ ?_|refine sE ?_ ?_|refine sN ?_ ?_|refine sG ?_ ?_)<;>intro ht<;>(first|(cases ht;done)|skip))|refine wr ?_|refine ix ?_|refine ati ?_|refine row ?_|refine app ?_|refine dr ?_|refine VAnd.mk ?_ ?_|exact VJe.mk rfl ⟨rfl,rfl⟩|refine .inl (slM ?_)|refine .inl (slO ?_)|refine slM ?_|refine slO ?_|refine slN ?_|refine slS ?_|refine swB (swM fun C hC=>?_)|refine sj ?_|refine .inl (sv ?_)|refine sv ?_|refine cl ?_|refine s3 ?_|refine az ?_|refine rm ?_|refine VBs.own ?_|fail)<;>(try conv=>whnf))
        all_goals exact no hs rfl
    · have hs : sameT (d + 1) a b = false := by rw [sameT, decide_eq_false h1]; rfl
      (try conv=>whnf)<;>repeat'((first|exact sNo|refine sT ?_|refine sF ?_|((first|refine sD ?_ ?_|refine sE ?_ ?_|refine sN ?_ ?_|refine sG ?_ ?_)<;>intro ht<;>(first|(cases ht;done)|skip))|refine wr ?_|refine ix ?_|refine ati ?_|refine row ?_|refine app ?_|refine dr ?_|refine VAnd.mk ?_ ?_|exact VJe.mk rfl ⟨rfl,rfl⟩|refine .inl (slM ?_)|refine .inl (slO ?_)|refine slM ?_|refine slO ?_|refine slN ?_|refine slS ?_|refine swB (swM fun C hC=>?_)|refine sj ?_|refine .inl (sv ?_)|refine sv ?_|refine cl ?_|refine s3 ?_|refine az ?_|refine rm ?_|refine VBs.own ?_|fail)<;>(try conv=>whnf))
      all_goals exact no hs rfl
theorem same_p {a b : Tr8} (d : Nat) (hd : deepT a ≤ d) (ha : cntT a ≤ 1000000) (hb : cntT b ≤ 1000000) {t : Bool} (ht : sameT d a b = t) : AFnP Try.prog 17 [.agg [lstE entE a.es, lstE kidRow a.ks], .agg [lstE entE b.es, lstE kidRow b.ks]] (.bool t) := by subst ht; exact same_a d a b hd ha hb
def str1 (n : UInt8) : ByteArray := ⟨#[n]⟩
def leafT : Tr8 := .mk [((1, 2), str1 120, 0)] []
theorem leaf_a : AFnP Try.prog 34 [] (.agg [.lst 1 [[i64 1, i64 2, .str (str1 120), i64 0]], .lst 0 []]) := by
  refine afnp_in ty_ok Try.call34 Try.func34 rfl rfl (by decide +kernel) ?_
  (try conv=>whnf)<;>repeat'((first|exact sNo|refine sT ?_|refine sF ?_|((first|refine sD ?_ ?_|refine sE ?_ ?_|refine sN ?_ ?_|refine sG ?_ ?_)<;>intro ht<;>(first|(cases ht;done)|skip))|refine wr ?_|refine ix ?_|refine ati ?_|refine row ?_|refine app ?_|refine dr ?_|refine VAnd.mk ?_ ?_|exact VJe.mk rfl ⟨rfl,rfl⟩|refine .inl (slM ?_)|refine .inl (slO ?_)|refine slM ?_|refine slO ?_|refine slN ?_|refine slS ?_|refine swB (swM fun C hC=>?_)|refine sj ?_|refine .inl (sv ?_)|refine sv ?_|refine cl ?_|refine s3 ?_|refine az ?_|refine rm ?_|refine VBs.own ?_|fail)<;>(try conv=>whnf))
  all_goals rfl
theorem awake_a : AFnP Try.prog 11 [] (.bool true) := by
  refine afnp_in ty_ok Try.call11 Try.func11 rfl rfl (by decide +kernel) ?_
  have h1 : AFnP Try.prog 19 [.agg [.lst 1 [[i64 1, i64 2, .str (str1 120), i64 0]], .lst 0 []], .lst 2 [[.str (str1 97)], [.str (str1 98)]]] (.tup [.agg [.lst 0 [], .lst 1 [[.str (str1 97), .lst 0 [], .lst 1 [[.str (str1 98), .lst 1 [[i64 1, i64 2, .str (str1 120), i64 0]], .lst 0 []]]]]], i64 0]) := wrap_t leafT [str1 97, str1 98] (by decide) (by decide) (by decide) (by decide) (by decide) (by decide)
  have hg : getT (wrapT leafT [str1 97, str1 98]) [str1 97, str1 98] = some leafT := by simp [getT, stepT, wrapT, eqKey, Tr8.ks, List.findIdx?_cons]
  have h2 := get_t (wrapT leafT [str1 97, str1 98]) [str1 97, str1 98] (by decide) (by decide) (by decide)
  rw [hg] at h2
  have h2 : AFnP Try.prog 14 [.agg [.lst 0 [], .lst 1 [[.str (str1 97), .lst 0 [], .lst 1 [[.str (str1 98), .lst 1 [[i64 1, i64 2, .str (str1 120), i64 0]], .lst 0 []]]]]], .lst 2 [[.str (str1 97)], [.str (str1 98)]]] (.agg [.lst 1 [[i64 1, i64 2, .str (str1 120), i64 0]], .lst 0 []]) := h2
  have hs : sameT 5 leafT leafT = true := by simp [sameT, eqEs, eqEnt, eqKs, leafT, Tr8.es, Tr8.ks]
  have h3 : AFnP Try.prog 17 [.agg [.lst 1 [[i64 1, i64 2, .str (str1 120), i64 0]], .lst 0 []], .agg [.lst 1 [[i64 1, i64 2, .str (str1 120), i64 0]], .lst 0 []]] (.bool true) := same_p (a := leafT) (b := leafT) 5 (by decide) (by decide) (by decide) hs
  have h0 := leaf_a
  clear hg hs
  (try conv=>whnf)<;>repeat'((first|exact sNo|refine sT ?_|refine sF ?_|((first|refine sD ?_ ?_|refine sE ?_ ?_|refine sN ?_ ?_|refine sG ?_ ?_)<;>intro ht<;>(first|(cases ht;done)|skip))|refine wr ?_|refine ix ?_|refine ati ?_|refine row ?_|refine app ?_|refine dr ?_|refine VAnd.mk ?_ ?_|exact VJe.mk rfl ⟨rfl,rfl⟩|refine .inl (slM ?_)|refine .inl (slO ?_)|refine slM ?_|refine slO ?_|refine slN ?_|refine slS ?_|refine swB (swM fun C hC=>?_)|refine sj ?_|refine .inl (sv ?_)|refine sv ?_|refine cl ?_|refine s3 ?_|refine az ?_|refine rm ?_|refine VBs.own ?_|refine cf h0 ?_|refine cg h0 ?_|refine cz h0 ?_|refine cf h1 ?_|refine cg h1 ?_|refine cz h1 ?_|refine cf h2 ?_|refine cg h2 ?_|refine cz h2 ?_|refine cf h3 ?_|refine cg h3 ?_|refine cz h3 ?_|fail)<;>(try conv=>whnf))
end Go.Proofs.Ytailblpjmgabjaa
