/- What is proved: what all, clone, deep, Size, Clone of package tree answer. Conditions: none. -/
import Derived.Test.YtailblpjmgabjaaTg
namespace Go.Proofs.Ytailblpjmgabjaa
open Go.RowKit
set_option linter.unusedVariables false
set_option linter.unusedSimpArgs false
set_option maxRecDepth 100000
set_option maxHeartbeats 16000000
def dtE (x : Int × Int) : List AV := [i64 x.1, i64 x.2]
theorem rightT_child {d : Nat} {t : Tr8} (h : rightT (d + 1) t = true) {i : Nat} (hi : i < t.ks.length) : rightT d t.ks[i].2 = true := goodK_right hi (rightT_kid h hi)
theorem all_a : ∀ (d : Nat) (t : Tr8), rightT d t = true → cntT t ≤ 1000000 → AFnP Try.prog 49 [.agg [lstE entE t.es, lstE kidRow t.ks]] (lstE dtE (allT t))
  | 0, t, hr, hc => by cases hr
  | d + 1, t, hr, hc => by
    have ih := all_a d
    rw [kidRow_fun, allT_eq]
    refine afnp_in ty_ok Try.call49 Try.func49 rfl rfl (by decide +kernel) ?_
    have hcnt := cntT_eq t
    (try conv=>whnf)<;>repeat'((first|exact sNo|refine sT ?_|refine sF ?_|((first|refine sD ?_ ?_|refine sE ?_ ?_|refine sN ?_ ?_|refine sG ?_ ?_)<;>intro ht<;>(first|(cases ht;done)|skip))|refine wr ?_|refine ix ?_|refine ati ?_|refine row ?_|refine app ?_|refine dr ?_|refine VAnd.mk ?_ ?_|exact VJe.mk rfl ⟨rfl,rfl⟩|refine .inl (slM ?_)|refine .inl (slO ?_)|refine slM ?_|refine slO ?_|refine slN ?_|refine slS ?_|refine swB (swM fun C hC=>?_)|refine sj ?_|refine .inl (sv ?_)|refine sv ?_|refine cl ?_|refine s3 ?_|refine az ?_|refine rm ?_|refine VBs.own ?_|fail)<;>(try conv=>whnf))
    refine VLp.mk ⟨[.slot 3 61 2], [1], [3, 11], fun k vs h => ∃ i : Nat, vs = [.own 1 i, i64 i] ∧ h = [.blk 0 [lstE entE t.es, lstE kidE t.ks] 25, .row 1 61 2 (((t.es.take i).map (fun e => e.1)).map dtE)] ∧ i ≤ t.es.length ∧ k = t.es.length - i, t.es.length, ?_⟩
    conv => whnf
    refine ⟨⟨0, rfl, rfl, by omega, by omega⟩, ?_⟩
    rintro k vs h ⟨i, rfl, rfl, hi, rfl⟩
    by_cases hin : i < t.es.length
    · (try conv=>whnf)<;>repeat'((first|exact sNo|refine sT ?_|refine sF ?_|((first|refine sD ?_ ?_|refine sE ?_ ?_|refine sN ?_ ?_|refine sG ?_ ?_)<;>intro ht<;>(first|(cases ht;done)|skip))|refine wr ?_|refine ix ?_|refine ati ?_|refine row ?_|refine app ?_|refine dr ?_|refine VAnd.mk ?_ ?_|exact VJe.mk rfl ⟨rfl,rfl⟩|refine .inl (slM ?_)|refine .inl (slO ?_)|refine slM ?_|refine slO ?_|refine slN ?_|refine slS ?_|refine swB (swM fun C hC=>?_)|refine sj ?_|refine .inl (sv ?_)|refine sv ?_|refine cl ?_|refine s3 ?_|refine az ?_|refine rm ?_|refine VBs.own ?_|fail)<;>(try conv=>whnf))
      refine VRd.mk rfl ⟨t.es.length - (i + 1), by omega, i + 1, rfl, ?_, by omega, rfl⟩
      rw [← take_snoc hin]
      simp only [List.map_append]
      rfl
    · obtain rfl : i = t.es.length := by omega
      rw [List.take_length]
      obtain ⟨E0, hE0⟩ : ∃ E0, E0 = t.es.map (fun e => e.1) := ⟨_, rfl⟩
      have hEl : t.es.length = E0.length := by rw [hE0, List.length_map]
      rw [← hE0, hEl]
      rw [hEl] at hcnt
      (try conv=>whnf)<;>repeat'((first|exact sNo|refine sT ?_|refine sF ?_|((first|refine sD ?_ ?_|refine sE ?_ ?_|refine sN ?_ ?_|refine sG ?_ ?_)<;>intro ht<;>(first|(cases ht;done)|skip))|refine wr ?_|refine ix ?_|refine ati ?_|refine row ?_|refine app ?_|refine dr ?_|refine VAnd.mk ?_ ?_|exact VJe.mk rfl ⟨rfl,rfl⟩|refine .inl (slM ?_)|refine .inl (slO ?_)|refine slM ?_|refine slO ?_|refine slN ?_|refine slS ?_|refine swB (swM fun C hC=>?_)|refine sj ?_|refine .inl (sv ?_)|refine sv ?_|refine cl ?_|refine s3 ?_|refine az ?_|refine rm ?_|refine VBs.own ?_|fail)<;>(try conv=>whnf))
      refine VLp.mk ⟨[], [], [3, 24], fun k vs h => ∃ i : Nat, vs = [.own 0 (E0.length + (allK (t.ks.take i)).length), i64 i] ∧ h = [.row 0 61 2 ((E0 ++ allK (t.ks.take i)).map dtE)] ∧ i ≤ t.ks.length ∧ k = t.ks.length - i, t.ks.length, ?_⟩
      conv => whnf
      refine ⟨⟨0, rfl, by simp [allK], by omega, by omega⟩, ?_⟩
      rintro k vs h ⟨i, rfl, rfl, hi, rfl⟩
      by_cases hin : i < t.ks.length
      · have hcx := cntK_mem (List.getElem_mem hin)
        have r := ih t.ks[i].2 (rightT_child hr hin) (by omega)
        have e := allK_take hin
        have l1 := allK_len (t.ks.take i)
        have l2 := cntK_le t.ks i
        have l3 := allT_len t.ks[i].2
        generalize allK (t.ks.take i) = A at *
        generalize allT t.ks[i].2 = B at *
        (try conv=>whnf)<;>repeat'((first|exact sNo|refine sT ?_|refine sF ?_|((first|refine sD ?_ ?_|refine sE ?_ ?_|refine sN ?_ ?_|refine sG ?_ ?_)<;>intro ht<;>(first|(cases ht;done)|skip))|refine wr ?_|refine ix ?_|refine ati ?_|refine row ?_|refine app ?_|refine dr ?_|refine VAnd.mk ?_ ?_|exact VJe.mk rfl ⟨rfl,rfl⟩|refine .inl (slM ?_)|refine .inl (slO ?_)|refine slM ?_|refine slO ?_|refine slN ?_|refine slS ?_|refine swB (swM fun C hC=>?_)|refine sj ?_|refine .inl (sv ?_)|refine sv ?_|refine cl ?_|refine s3 ?_|refine az ?_|refine rm ?_|refine VBs.own ?_|refine cf r ?_|refine cg r ?_|refine cz r ?_|fail)<;>(try conv=>whnf))
        exact VRd.mk rfl ⟨t.ks.length - (i + 1), by omega, i + 1, by rw [e]; simp [i64, Nat.add_assoc], by rw [e]; simp, by omega, rfl⟩
      · obtain rfl : i = t.ks.length := by omega
        rw [List.take_length]
        (try conv=>whnf)<;>repeat'((first|exact sNo|refine sT ?_|refine sF ?_|((first|refine sD ?_ ?_|refine sE ?_ ?_|refine sN ?_ ?_|refine sG ?_ ?_)<;>intro ht<;>(first|(cases ht;done)|skip))|refine wr ?_|refine ix ?_|refine ati ?_|refine row ?_|refine app ?_|refine dr ?_|refine VAnd.mk ?_ ?_|exact VJe.mk rfl ⟨rfl,rfl⟩|refine .inl (slM ?_)|refine .inl (slO ?_)|refine slM ?_|refine slO ?_|refine slN ?_|refine slS ?_|refine swB (swM fun C hC=>?_)|refine sj ?_|refine .inl (sv ?_)|refine sv ?_|refine cl ?_|refine s3 ?_|refine az ?_|refine rm ?_|refine VBs.own ?_|fail)<;>(try conv=>whnf))
        all_goals simp [lstE]
theorem dots_len {t : Tr8} (hc : cntT t ≤ 1000000) : (allT t).length ≤ 1000000 := Nat.le_trans (allT_len t) hc
theorem size_t (t : Tr8) (hr : rightT 5 t = true) (hc : cntT t ≤ 1000000) : AFnP Try.prog 22 [.agg [lstE entE t.es, lstE kidRow t.ks]] (i64 ((allT t).length : Nat)) := by
  refine afnp_in ty_ok Try.call22 Try.func22 rfl rfl (by decide +kernel) ?_
  have r1 := tright_a t hc
  rw [hr] at r1
  have r2 := all_a 5 t hr hc
  generalize allT t = A at *
  (try conv=>whnf)<;>repeat'((first|exact sNo|refine sT ?_|refine sF ?_|((first|refine sD ?_ ?_|refine sE ?_ ?_|refine sN ?_ ?_|refine sG ?_ ?_)<;>intro ht<;>(first|(cases ht;done)|skip))|refine wr ?_|refine ix ?_|refine ati ?_|refine row ?_|refine app ?_|refine dr ?_|refine VAnd.mk ?_ ?_|exact VJe.mk rfl ⟨rfl,rfl⟩|refine .inl (slM ?_)|refine .inl (slO ?_)|refine slM ?_|refine slO ?_|refine slN ?_|refine slS ?_|refine swB (swM fun C hC=>?_)|refine sj ?_|refine .inl (sv ?_)|refine sv ?_|refine cl ?_|refine s3 ?_|refine az ?_|refine rm ?_|refine VBs.own ?_|refine cf r1 ?_|refine cg r1 ?_|refine cz r1 ?_|refine cf r2 ?_|refine cg r2 ?_|refine cz r2 ?_|fail)<;>(try conv=>whnf))
theorem size_f (t : Tr8) (hr : rightT 5 t = false) (hc : cntT t ≤ 1000000) : AFnP Try.prog 22 [.agg [lstE entE t.es, lstE kidRow t.ks]] (i64 0) := by
  refine afnp_in ty_ok Try.call22 Try.func22 rfl rfl (by decide +kernel) ?_
  have r1 := tright_a t hc
  rw [hr] at r1
  (try conv=>whnf)<;>repeat'((first|exact sNo|refine sT ?_|refine sF ?_|((first|refine sD ?_ ?_|refine sE ?_ ?_|refine sN ?_ ?_|refine sG ?_ ?_)<;>intro ht<;>(first|(cases ht;done)|skip))|refine wr ?_|refine ix ?_|refine ati ?_|refine row ?_|refine app ?_|refine dr ?_|refine VAnd.mk ?_ ?_|exact VJe.mk rfl ⟨rfl,rfl⟩|refine .inl (slM ?_)|refine .inl (slO ?_)|refine slM ?_|refine slO ?_|refine slN ?_|refine slS ?_|refine swB (swM fun C hC=>?_)|refine sj ?_|refine .inl (sv ?_)|refine sv ?_|refine cl ?_|refine s3 ?_|refine az ?_|refine rm ?_|refine VBs.own ?_|refine cf r1 ?_|refine cg r1 ?_|refine cz r1 ?_|fail)<;>(try conv=>whnf))
theorem clone_a : ∀ (d : Nat) (t : Tr8), rightT d t = true → cntT t ≤ 1000000 → AFnP Try.prog 38 [.agg [lstE entE t.es, lstE kidRow t.ks]] (.agg [lstE entE t.es, lstE kidRow t.ks])
  | 0, t, hr, hc => by cases hr
  | d + 1, t, hr, hc => by
    have ih := clone_a d
    rw [kidRow_fun]
    refine afnp_in ty_ok Try.call38 Try.func38 rfl rfl (by decide +kernel) ?_
    have hcnt := cntT_eq t
    have r1 := cloneE_a t.es (by omega)
    (try conv=>whnf)<;>repeat'((first|exact sNo|refine sT ?_|refine sF ?_|((first|refine sD ?_ ?_|refine sE ?_ ?_|refine sN ?_ ?_|refine sG ?_ ?_)<;>intro ht<;>(first|(cases ht;done)|skip))|refine wr ?_|refine ix ?_|refine ati ?_|refine row ?_|refine app ?_|refine dr ?_|refine VAnd.mk ?_ ?_|exact VJe.mk rfl ⟨rfl,rfl⟩|refine .inl (slM ?_)|refine .inl (slO ?_)|refine slM ?_|refine slO ?_|refine slN ?_|refine slS ?_|refine swB (swM fun C hC=>?_)|refine sj ?_|refine .inl (sv ?_)|refine sv ?_|refine cl ?_|refine s3 ?_|refine az ?_|refine rm ?_|refine VBs.own ?_|refine cf r1 ?_|refine cg r1 ?_|refine cz r1 ?_|fail)<;>(try conv=>whnf))
    refine VLp.mk ⟨[.cell 2 1 56 3], [], [2, 3, 13], fun k vs h => ∃ i : Nat, vs = [.op 0 0, .op 1 0, i64 i] ∧ h = [.blk 0 [.nils, .nils] 25, .blk 1 [lstE entE t.es, .own 2 i] 25, .row 2 56 3 ((t.ks.take i).map kidE)] ∧ i ≤ t.ks.length ∧ k = t.ks.length - i, t.ks.length, ?_⟩
    conv => whnf
    refine ⟨⟨0, rfl, rfl, by omega, by omega⟩, ?_⟩
    rintro k vs h ⟨i, rfl, rfl, hi, rfl⟩
    by_cases hin : i < t.ks.length
    · have hcx := cntK_mem (List.getElem_mem hin)
      have r := ih t.ks[i].2 (rightT_child hr hin) (by omega)
      (try conv=>whnf)<;>repeat'((first|(refine drx [1006,10] [] [] ?_;(try conv=>whnf);(fail_if_success (show False)))|exact sNo|refine sT ?_|refine sF ?_|((first|refine sD ?_ ?_|refine sE ?_ ?_|refine sN ?_ ?_|refine sG ?_ ?_)<;>intro ht<;>(first|(cases ht;done)|skip))|refine wr ?_|refine ix ?_|refine ati ?_|refine row ?_|refine app ?_|refine dr ?_|refine VAnd.mk ?_ ?_|exact VJe.mk rfl ⟨rfl,rfl⟩|refine .inl (slM ?_)|refine .inl (slO ?_)|refine slM ?_|refine slO ?_|refine slN ?_|refine slS ?_|refine swB (swM fun C hC=>?_)|refine sj ?_|refine .inl (sv ?_)|refine sv ?_|refine cl ?_|refine s3 ?_|refine az ?_|refine rm ?_|refine VBs.own ?_|refine cp r ?_|refine cf r ?_|refine cg r ?_|refine cz r ?_|fail)<;>(try conv=>whnf))
      exact VRd.mk rfl ⟨t.ks.length - (i + 1), by omega, i + 1, rfl, by rw [← take_snoc hin, List.map_append]; rfl, by omega, rfl⟩
    · obtain rfl : i = t.ks.length := by omega
      rw [List.take_length]
      (try conv=>whnf)<;>repeat'((first|exact sNo|refine sT ?_|refine sF ?_|((first|refine sD ?_ ?_|refine sE ?_ ?_|refine sN ?_ ?_|refine sG ?_ ?_)<;>intro ht<;>(first|(cases ht;done)|skip))|refine wr ?_|refine ix ?_|refine ati ?_|refine row ?_|refine app ?_|refine dr ?_|refine VAnd.mk ?_ ?_|exact VJe.mk rfl ⟨rfl,rfl⟩|refine .inl (slM ?_)|refine .inl (slO ?_)|refine slM ?_|refine slO ?_|refine slN ?_|refine slS ?_|refine swB (swM fun C hC=>?_)|refine sj ?_|refine .inl (sv ?_)|refine sv ?_|refine cl ?_|refine s3 ?_|refine az ?_|refine rm ?_|refine VBs.own ?_|fail)<;>(try conv=>whnf))
      all_goals rfl
/-- the kids of a clone are the caller's own -/
theorem clone_o (d : Nat) (t : Tr8) (hr : rightT (d + 1) t = true) (hc : cntT t ≤ 1000000) : AFn Try.prog 38 [.agg [lstE entE t.es, lstE kidRow t.ks]] [] (fun r h' => r = .agg [lstE entE t.es, .own 0 t.ks.length] ∧ h' = [.row 0 56 3 (t.ks.map kidE)]) := by
    have ih := clone_a d
    rw [kidRow_fun]
    refine afn_in ty_ok Try.call38 Try.func38 rfl rfl (by decide +kernel) ?_
    have hcnt := cntT_eq t
    have r1 := cloneE_a t.es (by omega)
    (try conv=>whnf)<;>repeat'((first|exact sNo|refine sT ?_|refine sF ?_|((first|refine sD ?_ ?_|refine sE ?_ ?_|refine sN ?_ ?_|refine sG ?_ ?_)<;>intro ht<;>(first|(cases ht;done)|skip))|refine wr ?_|refine ix ?_|refine ati ?_|refine row ?_|refine app ?_|refine dr ?_|refine VAnd.mk ?_ ?_|exact VJe.mk rfl ⟨rfl,rfl⟩|refine .inl (slM ?_)|refine .inl (slO ?_)|refine slM ?_|refine slO ?_|refine slN ?_|refine slS ?_|refine swB (swM fun C hC=>?_)|refine sj ?_|refine .inl (sv ?_)|refine sv ?_|refine cl ?_|refine s3 ?_|refine az ?_|refine rm ?_|refine VBs.own ?_|refine cf r1 ?_|refine cg r1 ?_|refine cz r1 ?_|fail)<;>(try conv=>whnf))
    refine VLp.mk ⟨[.cell 2 1 56 3], [], [2, 3, 13], fun k vs h => ∃ i : Nat, vs = [.op 0 0, .op 1 0, i64 i] ∧ h = [.blk 0 [.nils, .nils] 25, .blk 1 [lstE entE t.es, .own 2 i] 25, .row 2 56 3 ((t.ks.take i).map kidE)] ∧ i ≤ t.ks.length ∧ k = t.ks.length - i, t.ks.length, ?_⟩
    conv => whnf
    refine ⟨⟨0, rfl, rfl, by omega, by omega⟩, ?_⟩
    rintro k vs h ⟨i, rfl, rfl, hi, rfl⟩
    by_cases hin : i < t.ks.length
    · have hcx := cntK_mem (List.getElem_mem hin)
      have r := ih t.ks[i].2 (rightT_child hr hin) (by omega)
      (try conv=>whnf)<;>repeat'((first|(refine drx [1006,10] [] [] ?_;(try conv=>whnf);(fail_if_success (show False)))|exact sNo|refine sT ?_|refine sF ?_|((first|refine sD ?_ ?_|refine sE ?_ ?_|refine sN ?_ ?_|refine sG ?_ ?_)<;>intro ht<;>(first|(cases ht;done)|skip))|refine wr ?_|refine ix ?_|refine ati ?_|refine row ?_|refine app ?_|refine dr ?_|refine VAnd.mk ?_ ?_|exact VJe.mk rfl ⟨rfl,rfl⟩|refine .inl (slM ?_)|refine .inl (slO ?_)|refine slM ?_|refine slO ?_|refine slN ?_|refine slS ?_|refine swB (swM fun C hC=>?_)|refine sj ?_|refine .inl (sv ?_)|refine sv ?_|refine cl ?_|refine s3 ?_|refine az ?_|refine rm ?_|refine VBs.own ?_|refine cp r ?_|refine cf r ?_|refine cg r ?_|refine cz r ?_|fail)<;>(try conv=>whnf))
      exact VRd.mk rfl ⟨t.ks.length - (i + 1), by omega, i + 1, rfl, by rw [← take_snoc hin, List.map_append]; rfl, by omega, rfl⟩
    · obtain rfl : i = t.ks.length := by omega
      rw [List.take_length]
      (try conv=>whnf)<;>repeat'((first|exact sNo|refine sT ?_|refine sF ?_|((first|refine sD ?_ ?_|refine sE ?_ ?_|refine sN ?_ ?_|refine sG ?_ ?_)<;>intro ht<;>(first|(cases ht;done)|skip))|refine wr ?_|refine ix ?_|refine ati ?_|refine row ?_|refine app ?_|refine dr ?_|refine VAnd.mk ?_ ?_|exact VJe.mk rfl ⟨rfl,rfl⟩|refine .inl (slM ?_)|refine .inl (slO ?_)|refine slM ?_|refine slO ?_|refine slN ?_|refine slS ?_|refine swB (swM fun C hC=>?_)|refine sj ?_|refine .inl (sv ?_)|refine sv ?_|refine cl ?_|refine s3 ?_|refine az ?_|refine rm ?_|refine VBs.own ?_|fail)<;>(try conv=>whnf))
      exact VRt.mk rfl ⟨rfl, rfl⟩
mutual
def deepT : Tr8 → Nat
  | .mk _ ks => deepK ks + 1
def deepK : List (ByteArray × Tr8) → Nat
  | [] => 0
  | x :: r => Nat.max (deepX x) (deepK r)
def deepX : ByteArray × Tr8 → Nat
  | (_, t) => deepT t
end
theorem max_cast (A B : Nat) : (if (B : Int) > (A : Int) then (B : Int) else (A : Int)) = ((Nat.max A B : Nat) : Int) := by
  show _ = ((max A B : Nat) : Int)
  split <;> omega
theorem deepT_eq (t : Tr8) : deepT t = deepK t.ks + 1 := by cases t; rfl
theorem deepX_eq (x : ByteArray × Tr8) : deepX x = deepT x.2 := by obtain ⟨k, t⟩ := x; rfl
theorem deepK_append (a b : List (ByteArray × Tr8)) : deepK (a ++ b) = Nat.max (deepK a) (deepK b) := by
  induction a with
  | nil => simp [deepK]
  | cons x a ih => simp only [List.cons_append, deepK, ih]; exact (Nat.max_assoc ..).symm
theorem deepK_take {ks : List (ByteArray × Tr8)} {i : Nat} (h : i < ks.length) : deepK (ks.take (i + 1)) = Nat.max (deepK (ks.take i)) (deepT ks[i].2) := by
  rw [List.take_succ_eq_append_getElem h, deepK_append]
  simp [deepK, deepX_eq]
theorem deepK_le {n : Nat} : ∀ {ks : List (ByteArray × Tr8)}, (∀ x ∈ ks, deepT x.2 ≤ n) → deepK ks ≤ n
  | [], _ => Nat.zero_le _
  | x :: r, h => by
    rw [deepK, deepX_eq]
    exact Nat.max_le.2 ⟨h x (List.mem_cons_self ..), deepK_le fun y hy => h y (List.mem_cons_of_mem _ hy)⟩
theorem deepT_le : ∀ (d : Nat) (t : Tr8), rightT d t = true → deepT t ≤ d
  | 0, t, h => by cases h
  | d + 1, t, h => by
    rw [deepT_eq]
    have : deepK t.ks ≤ d := deepK_le fun x hx => by
      obtain ⟨i, hi, rfl⟩ := List.getElem_of_mem hx
      exact deepT_le d _ (rightT_child h hi)
    omega
theorem deep_a : ∀ (d : Nat) (t : Tr8), d ≤ 100 → rightT d t = true → cntT t ≤ 1000000 → AFnP Try.prog 45 [.agg [lstE entE t.es, lstE kidRow t.ks]] (i64 (deepT t : Nat))
  | 0, t, hd, hr, hc => by cases hr
  | d + 1, t, hd, hr, hc => by
    have ih := deep_a d
    rw [kidRow_fun, deepT_eq]
    refine afnp_in ty_ok Try.call45 Try.func45 rfl rfl (by decide +kernel) ?_
    have hcnt := cntT_eq t
    (try conv=>whnf)<;>repeat'((first|exact sNo|refine sT ?_|refine sF ?_|((first|refine sD ?_ ?_|refine sE ?_ ?_|refine sN ?_ ?_|refine sG ?_ ?_)<;>intro ht<;>(first|(cases ht;done)|skip))|refine wr ?_|refine ix ?_|refine ati ?_|refine row ?_|refine app ?_|refine dr ?_|refine VAnd.mk ?_ ?_|exact VJe.mk rfl ⟨rfl,rfl⟩|refine .inl (slM ?_)|refine .inl (slO ?_)|refine slM ?_|refine slO ?_|refine slN ?_|refine slS ?_|refine swB (swM fun C hC=>?_)|refine sj ?_|refine .inl (sv ?_)|refine sv ?_|refine cl ?_|refine s3 ?_|refine az ?_|refine rm ?_|refine VBs.own ?_|fail)<;>(try conv=>whnf))
    refine VLp.mk ⟨[], [], [3, 9], fun k vs h => ∃ i : Nat, vs = [i64 (deepK (t.ks.take i) : Nat), i64 i] ∧ h = [] ∧ i ≤ t.ks.length ∧ k = t.ks.length - i, t.ks.length, ?_⟩
    conv => whnf
    refine ⟨⟨0, rfl, rfl, by omega, by omega⟩, ?_⟩
    rintro k vs h ⟨i, rfl, rfl, hi, rfl⟩
    by_cases hin : i < t.ks.length
    · have hcx := cntK_mem (List.getElem_mem hin)
      have r := ih t.ks[i].2 (by omega) (rightT_child hr hin) (by omega)
      have e := deepK_take hin
      generalize deepK (t.ks.take i) = A at *
      generalize deepT t.ks[i].2 = B at *
      (try conv=>whnf)<;>repeat'((first|exact sNo|refine sT ?_|refine sF ?_|((first|refine sD ?_ ?_|refine sE ?_ ?_|refine sN ?_ ?_|refine sG ?_ ?_)<;>intro ht<;>(first|(cases ht;done)|skip))|refine wr ?_|refine ix ?_|refine ati ?_|refine row ?_|refine app ?_|refine dr ?_|refine VAnd.mk ?_ ?_|exact VJe.mk rfl ⟨rfl,rfl⟩|refine .inl (slM ?_)|refine .inl (slO ?_)|refine slM ?_|refine slO ?_|refine slN ?_|refine slS ?_|refine swB (swM fun C hC=>?_)|refine sj ?_|refine .inl (sv ?_)|refine sv ?_|refine cl ?_|refine s3 ?_|refine az ?_|refine rm ?_|refine VBs.own ?_|refine cf r ?_|refine cg r ?_|refine cz r ?_|fail)<;>(try conv=>whnf))
      exact VRd.mk rfl ⟨t.ks.length - (i + 1), by omega, i + 1, by rw [e, ← max_cast]; rfl, rfl, by omega, rfl⟩
    · obtain rfl : i = t.ks.length := by omega
      rw [List.take_length]
      have hdl : deepK t.ks ≤ 101 := by have := deepT_le (d + 1) t hr; rw [deepT_eq] at this; omega
      (try conv=>whnf)<;>repeat'((first|exact sNo|refine sT ?_|refine sF ?_|((first|refine sD ?_ ?_|refine sE ?_ ?_|refine sN ?_ ?_|refine sG ?_ ?_)<;>intro ht<;>(first|(cases ht;done)|skip))|refine wr ?_|refine ix ?_|refine ati ?_|refine row ?_|refine app ?_|refine dr ?_|refine VAnd.mk ?_ ?_|exact VJe.mk rfl ⟨rfl,rfl⟩|refine .inl (slM ?_)|refine .inl (slO ?_)|refine slM ?_|refine slO ?_|refine slN ?_|refine slS ?_|refine swB (swM fun C hC=>?_)|refine sj ?_|refine .inl (sv ?_)|refine sv ?_|refine cl ?_|refine s3 ?_|refine az ?_|refine rm ?_|refine VBs.own ?_|fail)<;>(try conv=>whnf))
      all_goals rfl
theorem tclone_t (t : Tr8) (hr : rightT 5 t = true) (hc : cntT t ≤ 1000000) : AFnP Try.prog 24 [.agg [lstE entE t.es, lstE kidRow t.ks]] (.agg [lstE entE t.es, lstE kidRow t.ks]) := by
  refine afnp_in ty_ok Try.call24 Try.func24 rfl rfl (by decide +kernel) ?_
  have r1 := tright_a t hc
  rw [hr] at r1
  have r2 := clone_a 5 t hr hc
  (try conv=>whnf)<;>repeat'((first|exact sNo|refine sT ?_|refine sF ?_|((first|refine sD ?_ ?_|refine sE ?_ ?_|refine sN ?_ ?_|refine sG ?_ ?_)<;>intro ht<;>(first|(cases ht;done)|skip))|refine wr ?_|refine ix ?_|refine ati ?_|refine row ?_|refine app ?_|refine dr ?_|refine VAnd.mk ?_ ?_|exact VJe.mk rfl ⟨rfl,rfl⟩|refine .inl (slM ?_)|refine .inl (slO ?_)|refine slM ?_|refine slO ?_|refine slN ?_|refine slS ?_|refine swB (swM fun C hC=>?_)|refine sj ?_|refine .inl (sv ?_)|refine sv ?_|refine cl ?_|refine s3 ?_|refine az ?_|refine rm ?_|refine VBs.own ?_|refine cf r1 ?_|refine cg r1 ?_|refine cz r1 ?_|refine cf r2 ?_|refine cg r2 ?_|refine cz r2 ?_|fail)<;>(try conv=>whnf))
  all_goals rfl
theorem tclone_f (t : Tr8) (hr : rightT 5 t = false) (hc : cntT t ≤ 1000000) : AFnP Try.prog 24 [.agg [lstE entE t.es, lstE kidRow t.ks]] (.agg [.lst 0 [], .lst 0 []]) := by
  refine afnp_in ty_ok Try.call24 Try.func24 rfl rfl (by decide +kernel) ?_
  have r1 := tright_a t hc
  rw [hr] at r1
  (try conv=>whnf)<;>repeat'((first|exact sNo|refine sT ?_|refine sF ?_|((first|refine sD ?_ ?_|refine sE ?_ ?_|refine sN ?_ ?_|refine sG ?_ ?_)<;>intro ht<;>(first|(cases ht;done)|skip))|refine wr ?_|refine ix ?_|refine ati ?_|refine row ?_|refine app ?_|refine dr ?_|refine VAnd.mk ?_ ?_|exact VJe.mk rfl ⟨rfl,rfl⟩|refine .inl (slM ?_)|refine .inl (slO ?_)|refine slM ?_|refine slO ?_|refine slN ?_|refine slS ?_|refine swB (swM fun C hC=>?_)|refine sj ?_|refine .inl (sv ?_)|refine sv ?_|refine cl ?_|refine s3 ?_|refine az ?_|refine rm ?_|refine VBs.own ?_|refine cf r1 ?_|refine cg r1 ?_|refine cz r1 ?_|fail)<;>(try conv=>whnf))
  all_goals rfl
end Go.Proofs.Ytailblpjmgabjaa
