/- What is proved: what tree.Only, tree.Without and the reference's Only answer, and chapter 08's law function TreeParts. Conditions: none. -/
import Derived.Test.YtailblpjmgabjaaUk
import Derived.Test.YtailblpjmgabjaaUe
namespace Go.Proofs.Ytailblpjmgabjaa
open Go.RowKit
set_option linter.unusedVariables false
set_option linter.unusedSimpArgs false
set_option maxRecDepth 100000
set_option maxHeartbeats 16000000
def inKid (keys : List ByteArray) (x : ByteArray × Tr8) : Bool := inK keys x.1
def outKid (keys : List ByteArray) (x : ByteArray × Tr8) : Bool := !inK keys x.1
theorem keep_in (keys : List ByteArray) (l : List (ByteArray × Tr8)) : keepK (outKid keys) l = l.filter (inKid keys) := by
  unfold keepK outKid inKid; simp
theorem keep_out (keys : List ByteArray) (l : List (ByteArray × Tr8)) : keepK (inKid keys) l = l.filter (outKid keys) := by
  unfold keepK outKid inKid; rfl
theorem only_t (t : Tr8) (keys : List ByteArray) (hr : rightT 5 t = true) (hc : cntT t ≤ 1000000) (hn : keys.length ≤ 1000000) : AFnP Try.prog 28 [.agg [lstE entE t.es, lstE kidRow t.ks], lstE strE keys] (.agg [.lst 0 [], lstE kidRow (t.ks.filter (inKid keys))]) := by
  have r1 := tright_a t hc
  rw [hr] at r1
  have r2 := clone_o 4 t hr hc
  have hcnt := cntT_eq t
  have r3 := deleteKid_o t.ks (by omega) (g := 53) (keys := keys) (outKid keys) (fun x => only1_a x keys hn)
  rw [keep_in] at r3
  rw [kidRow_fun] at r1 r2 ⊢
  refine afnp_in ty_ok Try.call28 Try.func28 rfl rfl (by decide +kernel) ?_
  generalize t.ks.filter (inKid keys) = l at *
  (try conv=>whnf)<;>repeat'((first|exact sNo|refine sT ?_|refine sF ?_|((first|refine sD ?_ ?_|refine sE ?_ ?_|refine sN ?_ ?_|refine sG ?_ ?_)<;>intro ht<;>(first|(cases ht;done)|skip))|refine wr ?_|refine ix ?_|refine ati ?_|refine row ?_|refine app ?_|refine dr ?_|refine VAnd.mk ?_ ?_|exact VJe.mk rfl ⟨rfl,rfl⟩|refine .inl (slM ?_)|refine .inl (slO ?_)|refine slM ?_|refine slO ?_|refine slN ?_|refine slS ?_|refine swB (swM fun C hC=>?_)|refine sj ?_|refine .inl (sv ?_)|refine sv ?_|refine cl ?_|refine s3 ?_|refine az ?_|refine cf r1 ?_|refine cg r1 ?_|refine cz r1 ?_|(refine co r2 ?_;rintro r h' ⟨rfl,rfl⟩)|(refine co r3 ?_;rintro r h' (⟨rfl,rfl⟩|⟨rfl,rfl⟩))|fail)<;>(try conv=>whnf))
  all_goals rfl
theorem only_f (t : Tr8) (keys : List ByteArray) (hr : rightT 5 t = false) (hc : cntT t ≤ 1000000) : AFnP Try.prog 28 [.agg [lstE entE t.es, lstE kidRow t.ks], lstE strE keys] (.agg [.lst 0 [], .lst 0 []]) := by
  have r1 := tright_a t hc
  rw [hr] at r1
  refine afnp_in ty_ok Try.call28 Try.func28 rfl rfl (by decide +kernel) ?_
  (try conv=>whnf)<;>repeat'((first|exact sNo|refine sT ?_|refine sF ?_|((first|refine sD ?_ ?_|refine sE ?_ ?_|refine sN ?_ ?_|refine sG ?_ ?_)<;>intro ht<;>(first|(cases ht;done)|skip))|refine wr ?_|refine ix ?_|refine ati ?_|refine row ?_|refine app ?_|refine dr ?_|refine VAnd.mk ?_ ?_|exact VJe.mk rfl ⟨rfl,rfl⟩|refine .inl (slM ?_)|refine .inl (slO ?_)|refine slM ?_|refine slO ?_|refine slN ?_|refine slS ?_|refine swB (swM fun C hC=>?_)|refine sj ?_|refine .inl (sv ?_)|refine sv ?_|refine cl ?_|refine s3 ?_|refine az ?_|refine cf r1 ?_|refine cg r1 ?_|refine cz r1 ?_|fail)<;>(try conv=>whnf))
  all_goals rfl
theorem without_t (t : Tr8) (keys : List ByteArray) (hr : rightT 5 t = true) (hc : cntT t ≤ 1000000) (hn : keys.length ≤ 1000000) : AFnP Try.prog 29 [.agg [lstE entE t.es, lstE kidRow t.ks], lstE strE keys] (.agg [lstE entE t.es, lstE kidRow (t.ks.filter (outKid keys))]) := by
  have r1 := tright_a t hc
  rw [hr] at r1
  have r2 := clone_o 4 t hr hc
  have hcnt := cntT_eq t
  have r3 := deleteKid_o t.ks (by omega) (g := 55) (keys := keys) (inKid keys) (fun x => without1_a x keys hn)
  rw [keep_out] at r3
  rw [kidRow_fun] at r1 r2 ⊢
  refine afnp_in ty_ok Try.call29 Try.func29 rfl rfl (by decide +kernel) ?_
  generalize t.ks.filter (outKid keys) = l at *
  (try conv=>whnf)<;>repeat'((first|exact sNo|refine sT ?_|refine sF ?_|((first|refine sD ?_ ?_|refine sE ?_ ?_|refine sN ?_ ?_|refine sG ?_ ?_)<;>intro ht<;>(first|(cases ht;done)|skip))|refine wr ?_|refine ix ?_|refine ati ?_|refine row ?_|refine app ?_|refine dr ?_|refine VAnd.mk ?_ ?_|exact VJe.mk rfl ⟨rfl,rfl⟩|refine .inl (slM ?_)|refine .inl (slO ?_)|refine slM ?_|refine slO ?_|refine slN ?_|refine slS ?_|refine swB (swM fun C hC=>?_)|refine sj ?_|refine .inl (sv ?_)|refine sv ?_|refine cl ?_|refine s3 ?_|refine az ?_|refine cf r1 ?_|refine cg r1 ?_|refine cz r1 ?_|(refine co r2 ?_;rintro r h' ⟨rfl,rfl⟩)|(refine co r3 ?_;rintro r h' (⟨rfl,rfl⟩|⟨rfl,rfl⟩))|fail)<;>(try conv=>whnf))
  all_goals rfl
theorem without_f (t : Tr8) (keys : List ByteArray) (hr : rightT 5 t = false) (hc : cntT t ≤ 1000000) : AFnP Try.prog 29 [.agg [lstE entE t.es, lstE kidRow t.ks], lstE strE keys] (.agg [.lst 0 [], .lst 0 []]) := by
  have r1 := tright_a t hc
  rw [hr] at r1
  refine afnp_in ty_ok Try.call29 Try.func29 rfl rfl (by decide +kernel) ?_
  (try conv=>whnf)<;>repeat'((first|exact sNo|refine sT ?_|refine sF ?_|((first|refine sD ?_ ?_|refine sE ?_ ?_|refine sN ?_ ?_|refine sG ?_ ?_)<;>intro ht<;>(first|(cases ht;done)|skip))|refine wr ?_|refine ix ?_|refine ati ?_|refine row ?_|refine app ?_|refine dr ?_|refine VAnd.mk ?_ ?_|exact VJe.mk rfl ⟨rfl,rfl⟩|refine .inl (slM ?_)|refine .inl (slO ?_)|refine slM ?_|refine slO ?_|refine slN ?_|refine slS ?_|refine swB (swM fun C hC=>?_)|refine sj ?_|refine .inl (sv ?_)|refine sv ?_|refine cl ?_|refine s3 ?_|refine az ?_|refine cf r1 ?_|refine cg r1 ?_|refine cz r1 ?_|fail)<;>(try conv=>whnf))
  all_goals rfl
/-! the reference -/
theorem rin_a (keys : List ByteArray) (k : ByteArray) (hn : keys.length ≤ 1000000) : AFnP Try.prog 56 [lstE strE keys, .str k] (.bool (inK keys k)) := by
  refine afnp_in ty_ok Try.call56 Try.func56 rfl rfl (by decide +kernel) ?_
  (try conv=>whnf)<;>repeat'((first|exact sNo|refine sT ?_|refine sF ?_|((first|refine sD ?_ ?_|refine sE ?_ ?_|refine sN ?_ ?_|refine sG ?_ ?_)<;>intro ht<;>(first|(cases ht;done)|skip))|refine wr ?_|refine ix ?_|refine ati ?_|refine row ?_|refine app ?_|refine dr ?_|refine VAnd.mk ?_ ?_|exact VJe.mk rfl ⟨rfl,rfl⟩|refine .inl (slM ?_)|refine .inl (slO ?_)|refine slM ?_|refine slO ?_|refine slN ?_|refine slS ?_|refine swB (swM fun C hC=>?_)|refine sj ?_|refine .inl (sv ?_)|refine sv ?_|refine cl ?_|refine s3 ?_|refine az ?_|fail)<;>(try conv=>whnf))
  refine VLp.mk ⟨[], [], [8], fun k' vs h => ∃ i : Nat, vs = [i64 i] ∧ h = [] ∧ i ≤ keys.length ∧ k' = keys.length - i ∧ ∀ j (hj : j < i) (hjl : j < keys.length), eqKey k keys[j] = false, keys.length, ?_⟩
  conv => whnf
  refine ⟨⟨0, rfl, rfl, by omega, by omega, fun j hj => by omega⟩, ?_⟩
  rintro k' vs h ⟨i, rfl, rfl, hi, rfl, hg⟩
  by_cases hin : i < keys.length
  · by_cases hk : keys[i].toList = k.toList
    · have hke : eqKey k keys[i] = true := by unfold eqKey; exact beq_iff_eq.2 hk.symm
      (try conv=>whnf)<;>repeat'((first|exact sNo|refine sT ?_|refine sF ?_|((first|refine sD ?_ ?_|refine sE ?_ ?_|refine sN ?_ ?_|refine sG ?_ ?_)<;>intro ht<;>(first|(cases ht;done)|skip))|refine wr ?_|refine ix ?_|refine ati ?_|refine row ?_|refine app ?_|refine dr ?_|refine VAnd.mk ?_ ?_|exact VJe.mk rfl ⟨rfl,rfl⟩|refine .inl (slM ?_)|refine .inl (slO ?_)|refine slM ?_|refine slO ?_|refine slN ?_|refine slS ?_|refine swB (swM fun C hC=>?_)|refine sj ?_|refine .inl (sv ?_)|refine sv ?_|refine cl ?_|refine s3 ?_|refine az ?_|fail)<;>(try conv=>whnf))
      all_goals first
        | exact absurd hk (by assumption)
        | (refine congrArg AV.bool ?_; exact (List.any_eq_true.2 ⟨keys[i], List.getElem_mem hin, hke⟩).symm)
    · have hke : eqKey k keys[i] = false := by unfold eqKey; exact beq_eq_false_iff_ne.2 fun h => hk h.symm
      (try conv=>whnf)<;>repeat'((first|exact sNo|refine sT ?_|refine sF ?_|((first|refine sD ?_ ?_|refine sE ?_ ?_|refine sN ?_ ?_|refine sG ?_ ?_)<;>intro ht<;>(first|(cases ht;done)|skip))|refine wr ?_|refine ix ?_|refine ati ?_|refine row ?_|refine app ?_|refine dr ?_|refine VAnd.mk ?_ ?_|exact VJe.mk rfl ⟨rfl,rfl⟩|refine .inl (slM ?_)|refine .inl (slO ?_)|refine slM ?_|refine slO ?_|refine slN ?_|refine slS ?_|refine swB (swM fun C hC=>?_)|refine sj ?_|refine .inl (sv ?_)|refine sv ?_|refine cl ?_|refine s3 ?_|refine az ?_|fail)<;>(try conv=>whnf))
      all_goals first
        | exact absurd (by assumption) hk
        | exact VRd.mk rfl ⟨keys.length - (i + 1), by omega, i + 1, rfl, rfl, by omega, rfl, fun j hj hjl => by rcases Nat.lt_succ_iff_lt_or_eq.1 hj with h | rfl; exact hg j h hjl; exact hke⟩
  · have : inK keys k = false := by
      unfold inK
      rw [List.any_eq_false]
      intro x hx
      obtain ⟨j, hj, rfl⟩ := List.getElem_of_mem hx
      rw [hg j (by omega) hj]; decide
    rw [this]
    (try conv=>whnf)<;>repeat'((first|exact sNo|refine sT ?_|refine sF ?_|((first|refine sD ?_ ?_|refine sE ?_ ?_|refine sN ?_ ?_|refine sG ?_ ?_)<;>intro ht<;>(first|(cases ht;done)|skip))|refine wr ?_|refine ix ?_|refine ati ?_|refine row ?_|refine app ?_|refine dr ?_|refine VAnd.mk ?_ ?_|exact VJe.mk rfl ⟨rfl,rfl⟩|refine .inl (slM ?_)|refine .inl (slO ?_)|refine slM ?_|refine slO ?_|refine slN ?_|refine slS ?_|refine swB (swM fun C hC=>?_)|refine sj ?_|refine .inl (sv ?_)|refine sv ?_|refine cl ?_|refine s3 ?_|refine az ?_|fail)<;>(try conv=>whnf))
    all_goals rfl
def isIn (keys : List ByteArray) (x : Leaf8) : Bool := decide (0 < x.1.length) && inK keys (headK x)
def notIn (keys : List ByteArray) (x : Leaf8) : Bool := !isIn keys x
theorem filt_take {α : Type} {q : α → Bool} {l : List α} {i : Nat} (h : i < l.length) : (l.take (i + 1)).filter q = (l.take i).filter q ++ (if q l[i] = true then [l[i]] else []) := by
  rw [List.take_succ_eq_append_getElem h, List.filter_append]
  congr 1
  cases hp : q l[i] <;> simp [hp]
theorem filt_len {α : Type} (q : α → Bool) (l : List α) (i : Nat) : ((l.take i).filter q).length ≤ i := Nat.le_trans (List.length_filter_le _ _) (by rw [List.length_take]; omega)
theorem ronly_a (l : List Leaf8) (t a b : Tr8) (keys : List ByteArray) (hn : keys.length ≤ 1000000) (hl : l.length ≤ 1000000) (hp : ∀ x ∈ l, x.1.length ≤ 1000000)
    (r1 : AFnP Try.prog 23 [.agg [lstE entE t.es, lstE kidE t.ks]] (lstE leafE l))
    (ra : AFnP Try.prog 41 [lstE leafE (l.filter (isIn keys))] (.agg [lstE entE a.es, lstE kidE a.ks])) (rb : AFnP Try.prog 41 [lstE leafE (l.filter (notIn keys))] (.agg [lstE entE b.es, lstE kidE b.ks])) :
    AFnP Try.prog 30 [.agg [lstE entE t.es, lstE kidE t.ks], lstE strE keys] (.tup [.agg [lstE entE a.es, lstE kidE a.ks], .agg [lstE entE b.es, lstE kidE b.ks]]) := by
  refine afnp_in ty_ok Try.call30 Try.func30 rfl rfl (by decide +kernel) ?_
  (try conv=>whnf)<;>repeat'((first|exact sNo|refine sT ?_|refine sF ?_|((first|refine sD ?_ ?_|refine sE ?_ ?_|refine sN ?_ ?_|refine sG ?_ ?_)<;>intro ht<;>(first|(cases ht;done)|skip))|refine wr ?_|refine ix ?_|refine ati ?_|refine row ?_|refine app ?_|refine dr ?_|refine VAnd.mk ?_ ?_|exact VJe.mk rfl ⟨rfl,rfl⟩|refine .inl (slM ?_)|refine .inl (slO ?_)|refine slM ?_|refine slO ?_|refine slN ?_|refine slS ?_|refine swB (swM fun C hC=>?_)|refine sj ?_|refine .inl (sv ?_)|refine sv ?_|refine cl ?_|refine s3 ?_|refine az ?_|refine cf r1 ?_|refine cg r1 ?_|refine cz r1 ?_|fail)<;>(try conv=>whnf))
  refine VLp.mk ⟨[.slot 6 70 5, .slot 7 70 5], [4, 5], [6, 7, 14], fun k' vs h => ∃ i : Nat, vs = [.own 2 ((l.take i).filter (isIn keys)).length, .own 3 ((l.take i).filter (notIn keys)).length, i64 i] ∧ h = [.blk 0 [.nils, .nils] 25, .blk 1 [.nils, .nils] 25, .row 2 70 5 (((l.take i).filter (isIn keys)).map leafE), .row 3 70 5 (((l.take i).filter (notIn keys)).map leafE)] ∧ i ≤ l.length ∧ k' = l.length - i, l.length, ?_⟩
  conv => whnf
  refine ⟨⟨0, rfl, rfl, by omega, by omega⟩, ?_⟩
  rintro k' vs h ⟨i, rfl, rfl, hi, rfl⟩
  by_cases hin : i < l.length
  · have hlen := hp l[i] (List.getElem_mem hin)
    have e1 := filt_take (q := isIn keys) hin
    have e2 := filt_take (q := notIn keys) hin
    have l1 := filt_len (isIn keys) l i
    have l2 := filt_len (notIn keys) l i
    generalize (l.take i).filter (isIn keys) = X at *
    generalize (l.take i).filter (notIn keys) = Y at *
    have yes : isIn keys l[i] = true → (l.take (i + 1)).filter (isIn keys) = X ++ [l[i]] ∧ (l.take (i + 1)).filter (notIn keys) = Y := fun h => by
      rw [e1, e2]; simp [notIn, h]
    have no : isIn keys l[i] = false → (l.take (i + 1)).filter (isIn keys) = X ∧ (l.take (i + 1)).filter (notIn keys) = Y ++ [l[i]] := fun h => by
      rw [e1, e2]; simp [notIn, h]
    by_cases h0 : 0 < l[i].1.length
    · have r2 := rin_a keys (l[i].1[0]'h0) hn
      have hd : isIn keys l[i] = inK keys (l[i].1[0]'h0) := by unfold isIn; rw [decide_eq_true h0, Bool.true_and, headK_eq h0]
      cases hk : inK keys (l[i].1[0]'h0)
      · rw [hk] at r2 hd
        obtain ⟨g1, g2⟩ := no hd
        (try conv=>whnf)<;>repeat'((first|exact sNo|refine sT ?_|refine sF ?_|((first|refine sD ?_ ?_|refine sE ?_ ?_|refine sN ?_ ?_|refine sG ?_ ?_)<;>intro ht<;>(first|(cases ht;done)|skip))|refine wr ?_|refine ix ?_|refine ati ?_|refine row ?_|refine app ?_|refine dr ?_|refine VAnd.mk ?_ ?_|exact VJe.mk rfl ⟨rfl,rfl⟩|refine .inl (slM ?_)|refine .inl (slO ?_)|refine slM ?_|refine slO ?_|refine slN ?_|refine slS ?_|refine swB (swM fun C hC=>?_)|refine sj ?_|refine .inl (sv ?_)|refine sv ?_|refine cl ?_|refine s3 ?_|refine az ?_|refine cf r2 ?_|refine cg r2 ?_|refine cz r2 ?_|fail)<;>(try conv=>whnf))
        all_goals exact VRd.mk rfl ⟨l.length - (i + 1), by omega, i + 1, by rw [g1, g2]; simp [i64], by rw [g1, g2, List.map_append]; rfl, by omega, rfl⟩
      · rw [hk] at r2 hd
        obtain ⟨g1, g2⟩ := yes hd
        (try conv=>whnf)<;>repeat'((first|exact sNo|refine sT ?_|refine sF ?_|((first|refine sD ?_ ?_|refine sE ?_ ?_|refine sN ?_ ?_|refine sG ?_ ?_)<;>intro ht<;>(first|(cases ht;done)|skip))|refine wr ?_|refine ix ?_|refine ati ?_|refine row ?_|refine app ?_|refine dr ?_|refine VAnd.mk ?_ ?_|exact VJe.mk rfl ⟨rfl,rfl⟩|refine .inl (slM ?_)|refine .inl (slO ?_)|refine slM ?_|refine slO ?_|refine slN ?_|refine slS ?_|refine swB (swM fun C hC=>?_)|refine sj ?_|refine .inl (sv ?_)|refine sv ?_|refine cl ?_|refine s3 ?_|refine az ?_|refine cf r2 ?_|refine cg r2 ?_|refine cz r2 ?_|fail)<;>(try conv=>whnf))
        all_goals exact VRd.mk rfl ⟨l.length - (i + 1), by omega, i + 1, by rw [g1, g2]; simp [i64], by rw [g1, g2, List.map_append]; rfl, by omega, rfl⟩
    · have hd : isIn keys l[i] = false := by unfold isIn; rw [decide_eq_false h0, Bool.false_and]
      obtain ⟨g1, g2⟩ := no hd
      (try conv=>whnf)<;>repeat'((first|exact sNo|refine sT ?_|refine sF ?_|((first|refine sD ?_ ?_|refine sE ?_ ?_|refine sN ?_ ?_|refine sG ?_ ?_)<;>intro ht<;>(first|(cases ht;done)|skip))|refine wr ?_|refine ix ?_|refine ati ?_|refine row ?_|refine app ?_|refine dr ?_|refine VAnd.mk ?_ ?_|exact VJe.mk rfl ⟨rfl,rfl⟩|refine .inl (slM ?_)|refine .inl (slO ?_)|refine slM ?_|refine slO ?_|refine slN ?_|refine slS ?_|refine swB (swM fun C hC=>?_)|refine sj ?_|refine .inl (sv ?_)|refine sv ?_|refine cl ?_|refine s3 ?_|refine az ?_|fail)<;>(try conv=>whnf))
      all_goals exact VRd.mk rfl ⟨l.length - (i + 1), by omega, i + 1, by rw [g1, g2]; simp [i64], by rw [g1, g2, List.map_append]; rfl, by omega, rfl⟩
  · obtain rfl : i = l.length := by omega
    rw [List.take_length]
    generalize l.filter (isIn keys) = X at *
    generalize l.filter (notIn keys) = Y at *
    (try conv=>whnf)<;>repeat'((first|exact sNo|refine sT ?_|refine sF ?_|((first|refine sD ?_ ?_|refine sE ?_ ?_|refine sN ?_ ?_|refine sG ?_ ?_)<;>intro ht<;>(first|(cases ht;done)|skip))|refine wr ?_|refine ix ?_|refine ati ?_|refine row ?_|refine app ?_|refine dr ?_|refine VAnd.mk ?_ ?_|exact VJe.mk rfl ⟨rfl,rfl⟩|refine .inl (slM ?_)|refine .inl (slO ?_)|refine slM ?_|refine slO ?_|refine slN ?_|refine slS ?_|refine swB (swM fun C hC=>?_)|refine sj ?_|refine .inl (sv ?_)|refine sv ?_|refine cl ?_|refine s3 ?_|refine az ?_|refine cf ra ?_|refine cg ra ?_|refine cz ra ?_|refine cf rb ?_|refine cg rb ?_|refine cz rb ?_|fail)<;>(try conv=>whnf))
    all_goals rfl
end Go.Proofs.Ytailblpjmgabjaa
