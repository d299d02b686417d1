/- What is proved: what Leaves of chapter 08's reference answers. Conditions: none. -/
import Derived.Test.YtlghgdgpbnlpmaaGreatMTb
import Derived.Test.YtlghgdgpbnlpmaaGreatMTc
namespace Go.Proofs.YtlghgdgpbnlpmaaGreat
open Go.RowKit
set_option linter.unusedVariables false
set_option linter.unusedSimpArgs false
set_option maxRecDepth 100000
set_option maxHeartbeats 16000000
abbrev Leaf8 := List ByteArray × Ent8
def leafE (x : Leaf8) : List AV := [lstE strE x.1, i64 x.2.1.1, i64 x.2.1.2, .str x.2.2.1, i64 x.2.2.2]
mutual
def belowT : Tr8 → List ByteArray → List Leaf8
  | .mk es ks, p => es.map (fun e => (p, e)) ++ belowK ks p
def belowK : List (ByteArray × Tr8) → List ByteArray → List Leaf8
  | [], _ => []
  | x :: r, p => belowX x p ++ belowK r p
def belowX : ByteArray × Tr8 → List ByteArray → List Leaf8
  | (k, t), p => belowT t (p ++ [k])
end
theorem belowT_eq (t : Tr8) (p : List ByteArray) : belowT t p = t.es.map (fun e => (p, e)) ++ belowK t.ks p := by cases t; rfl
theorem belowX_eq (x : ByteArray × Tr8) (p : List ByteArray) : belowX x p = belowT x.2 (p ++ [x.1]) := by obtain ⟨k, t⟩ := x; rfl
theorem belowK_append (p : List ByteArray) (a b : List (ByteArray × Tr8)) : belowK (a ++ b) p = belowK a p ++ belowK b p := by
  induction a with
  | nil => rfl
  | cons x a ih => simp only [List.cons_append, belowK, ih, List.append_assoc]
theorem belowK_take (p : List ByteArray) {ks : List (ByteArray × Tr8)} {i : Nat} (h : i < ks.length) : belowK (ks.take (i + 1)) p = belowK (ks.take i) p ++ belowT ks[i].2 (p ++ [ks[i].1]) := by
  rw [List.take_succ_eq_append_getElem h, belowK_append]
  simp [belowK, belowX_eq]
mutual
theorem belowT_len : ∀ (t : Tr8) (p : List ByteArray), (belowT t p).length = (allT t).length
  | .mk es ks, p => by
    have := belowK_len ks p
    simp only [belowT, allT, List.length_append, List.length_map, this]
theorem belowK_len : ∀ (ks : List (ByteArray × Tr8)) (p : List ByteArray), (belowK ks p).length = (allK ks).length
  | [], p => rfl
  | x :: r, p => by
    have h1 := belowX_len x p
    have h2 := belowK_len r p
    simp only [belowK, allK, List.length_append, h1, h2]
theorem belowX_len : ∀ (x : ByteArray × Tr8) (p : List ByteArray), (belowX x p).length = (allX x).length
  | (k, t), p => by simpa only [belowX, allX] using belowT_len t (p ++ [k])
end
theorem below_a : ∀ (d : Nat) (t : Tr8) (p : List ByteArray), rightT d t = true → cntT t ≤ 1000000 → p.length + d ≤ 1000 →
    AFnP Tryz.prog 125 [.agg [lstE entE t.es, lstE kidRow t.ks], lstE strE p] (lstE leafE (belowT t p))
  | 0, t, p, hr, hc, hp => by cases hr
  | d + 1, t, p, hr, hc, hp => by
    have ih := below_a d
    rw [kidRow_fun, belowT_eq]
    refine afnp_in ty_ok Tryz.call125 Tryz.func125 rfl rfl (by decide +kernel) ?_
    have hcnt := cntT_eq t
    (try conv=>whnf)<;>repeat'((first|exact sNo|refine sT ?_|refine sF ?_|((first|refine sD ?_ ?_|refine sE ?_ ?_|refine sN ?_ ?_|refine sG ?_ ?_)<;>intro ht<;>(first|(cases ht;done)|skip))|refine wr ?_|refine ix ?_|refine ati ?_|refine row ?_|refine app ?_|refine dr ?_|refine VAnd.mk ?_ ?_|exact VJe.mk rfl ⟨rfl,rfl⟩|refine .inl (slM ?_)|refine .inl (slO ?_)|refine slM ?_|refine slO ?_|refine slN ?_|refine slS ?_|refine swB (swM fun C hC=>?_)|refine sj ?_|refine .inl (sv ?_)|refine sv ?_|refine cl ?_|refine s3 ?_|refine az ?_|refine rm ?_|refine VBs.own ?_|fail)<;>(try conv=>whnf))
    refine VLp.mk ⟨[.slot 5 166 5], [2], [5, 12], fun k vs h => ∃ i : Nat, vs = [.own 1 i, i64 i] ∧ h = [.blk 0 [lstE entE t.es, lstE kidE t.ks] 37, .row 1 166 5 (((t.es.take i).map (fun e => (p, e))).map leafE)] ∧ i ≤ t.es.length ∧ k = t.es.length - i, t.es.length, ?_⟩
    conv => whnf
    refine ⟨⟨0, rfl, rfl, by omega, by omega⟩, ?_⟩
    rintro k vs h ⟨i, rfl, rfl, hi, rfl⟩
    by_cases hin : i < t.es.length
    · (try conv=>whnf)<;>repeat'((first|exact sNo|refine sT ?_|refine sF ?_|((first|refine sD ?_ ?_|refine sE ?_ ?_|refine sN ?_ ?_|refine sG ?_ ?_)<;>intro ht<;>(first|(cases ht;done)|skip))|refine wr ?_|refine ix ?_|refine ati ?_|refine row ?_|refine app ?_|refine dr ?_|refine VAnd.mk ?_ ?_|exact VJe.mk rfl ⟨rfl,rfl⟩|refine .inl (slM ?_)|refine .inl (slO ?_)|refine slM ?_|refine slO ?_|refine slN ?_|refine slS ?_|refine swB (swM fun C hC=>?_)|refine sj ?_|refine .inl (sv ?_)|refine sv ?_|refine cl ?_|refine s3 ?_|refine az ?_|refine rm ?_|refine VBs.own ?_|fail)<;>(try conv=>whnf))
      refine VRd.mk rfl ⟨t.es.length - (i + 1), by omega, i + 1, rfl, ?_, by omega, rfl⟩
      rw [← take_snoc hin]
      simp only [List.map_append]
      rfl
    · obtain rfl : i = t.es.length := by omega
      rw [List.take_length]
      obtain ⟨E0, hE0⟩ : ∃ E0, E0 = t.es.map (fun e => (p, e)) := ⟨_, rfl⟩
      have hEl : t.es.length = E0.length := by rw [hE0, List.length_map]
      rw [← hE0, hEl]
      rw [hEl] at hcnt
      (try conv=>whnf)<;>repeat'((first|exact sNo|refine sT ?_|refine sF ?_|((first|refine sD ?_ ?_|refine sE ?_ ?_|refine sN ?_ ?_|refine sG ?_ ?_)<;>intro ht<;>(first|(cases ht;done)|skip))|refine wr ?_|refine ix ?_|refine ati ?_|refine row ?_|refine app ?_|refine dr ?_|refine VAnd.mk ?_ ?_|exact VJe.mk rfl ⟨rfl,rfl⟩|refine .inl (slM ?_)|refine .inl (slO ?_)|refine slM ?_|refine slO ?_|refine slN ?_|refine slS ?_|refine swB (swM fun C hC=>?_)|refine sj ?_|refine .inl (sv ?_)|refine sv ?_|refine cl ?_|refine s3 ?_|refine az ?_|refine rm ?_|refine VBs.own ?_|fail)<;>(try conv=>whnf))
      refine VLp.mk ⟨[.frz [0]], [], [5, 29], fun k vs h => ∃ i : Nat, vs = [.own 0 (E0.length + (belowK (t.ks.take i) p).length), i64 i] ∧ h = [.row 0 166 5 ((E0 ++ belowK (t.ks.take i) p).map leafE)] ∧ i ≤ t.ks.length ∧ k = t.ks.length - i, t.ks.length, ?_⟩
      conv => whnf
      refine ⟨⟨0, rfl, by simp [belowK], by omega, by omega⟩, ?_⟩
      rintro k vs h ⟨i, rfl, rfl, hi, rfl⟩
      by_cases hin : i < t.ks.length
      · have hcx := cntK_mem (List.getElem_mem hin)
        have r := ih t.ks[i].2 (p ++ [t.ks[i].1]) (rightT_child hr hin) (by omega) (by simp only [List.length_append, List.length_cons, List.length_nil]; omega)
        rw [show lstE strE (p ++ [t.ks[i].1]) = .lst (0 + p.length + 1) (p.map strE ++ [[.str t.ks[i].1]]) by simp [lstE, strE]] at r
        have e := belowK_take p hin
        have l0 := belowK_len (t.ks.take i) p
        have l1 := allK_len (t.ks.take i)
        have l2 := cntK_le t.ks i
        have l4 := belowT_len t.ks[i].2 (p ++ [t.ks[i].1])
        have l3 := allT_len t.ks[i].2
        generalize belowK (t.ks.take i) p = A at *
        generalize belowT t.ks[i].2 (p ++ [t.ks[i].1]) = B at *
        (try conv=>whnf)<;>repeat'((first|(refine drx [2000] [4,8] [] ?_;(try conv=>whnf);(fail_if_success (show False)))|exact sNo|refine sT ?_|refine sF ?_|((first|refine sD ?_ ?_|refine sE ?_ ?_|refine sN ?_ ?_|refine sG ?_ ?_)<;>intro ht<;>(first|(cases ht;done)|skip))|refine wr ?_|refine ix ?_|refine ati ?_|refine row ?_|refine app ?_|refine dr ?_|refine VAnd.mk ?_ ?_|exact VJe.mk rfl ⟨rfl,rfl⟩|refine .inl (slM ?_)|refine .inl (slO ?_)|refine slM ?_|refine slO ?_|refine slN ?_|refine slS ?_|refine swB (swM fun C hC=>?_)|refine sj ?_|refine .inl (sv ?_)|refine sv ?_|refine cl ?_|refine s3 ?_|refine az ?_|refine rm ?_|refine VBs.own ?_|refine cf r ?_|refine cg r ?_|refine cz r ?_|fail)<;>(try conv=>whnf))
        all_goals exact VRd.mk rfl ⟨t.ks.length - (i + 1), by omega, i + 1, by rw [e]; simp [i64, Nat.add_assoc], by rw [e]; simp, by omega, rfl⟩
      · obtain rfl : i = t.ks.length := by omega
        rw [List.take_length]
        (try conv=>whnf)<;>repeat'((first|exact sNo|refine sT ?_|refine sF ?_|((first|refine sD ?_ ?_|refine sE ?_ ?_|refine sN ?_ ?_|refine sG ?_ ?_)<;>intro ht<;>(first|(cases ht;done)|skip))|refine wr ?_|refine ix ?_|refine ati ?_|refine row ?_|refine app ?_|refine dr ?_|refine VAnd.mk ?_ ?_|exact VJe.mk rfl ⟨rfl,rfl⟩|refine .inl (slM ?_)|refine .inl (slO ?_)|refine slM ?_|refine slO ?_|refine slN ?_|refine slS ?_|refine swB (swM fun C hC=>?_)|refine sj ?_|refine .inl (sv ?_)|refine sv ?_|refine cl ?_|refine s3 ?_|refine az ?_|refine rm ?_|refine VBs.own ?_|fail)<;>(try conv=>whnf))
        all_goals simp [lstE]
theorem leaves_a (d : Nat) (t : Tr8) (hd : d ≤ 100) (hr : rightT d t = true) (hc : cntT t ≤ 1000000) : AFnP Tryz.prog 101 [.agg [lstE entE t.es, lstE kidRow t.ks]] (lstE leafE (belowT t [])) := by
  refine afnp_in ty_ok Tryz.call101 Tryz.func101 rfl rfl (by decide +kernel) ?_
  have r : AFnP Tryz.prog 125 [.agg [lstE entE t.es, lstE kidRow t.ks], .lst 0 []] (lstE leafE (belowT t [])) := below_a d t [] hr hc (by simp; omega)
  (try conv=>whnf)<;>repeat'((first|exact sNo|refine sT ?_|refine sF ?_|((first|refine sD ?_ ?_|refine sE ?_ ?_|refine sN ?_ ?_|refine sG ?_ ?_)<;>intro ht<;>(first|(cases ht;done)|skip))|refine wr ?_|refine ix ?_|refine ati ?_|refine row ?_|refine app ?_|refine dr ?_|refine VAnd.mk ?_ ?_|exact VJe.mk rfl ⟨rfl,rfl⟩|refine .inl (slM ?_)|refine .inl (slO ?_)|refine slM ?_|refine slO ?_|refine slN ?_|refine slS ?_|refine swB (swM fun C hC=>?_)|refine sj ?_|refine .inl (sv ?_)|refine sv ?_|refine cl ?_|refine s3 ?_|refine az ?_|refine rm ?_|refine VBs.own ?_|refine cf r ?_|refine cg r ?_|refine cz r ?_|fail)<;>(try conv=>whnf))
end Go.Proofs.YtlghgdgpbnlpmaaGreat
