/- What is proved: what all, clone, deep, Size, Clone of package tree answer. Conditions: none. -/
import Derived.Test.YtlghgdgpbnlpmaaMTa
import Derived.Lib.Strings
namespace Go.Proofs.Ytlghgdgpbnlpmaa
open Go.RowKit
set_option linter.unusedVariables false
set_option linter.unusedSimpArgs false
set_option maxRecDepth 100000
set_option maxHeartbeats 16000000
def dtE (x : Int × Int) : List AV := [i64 x.1, i64 x.2]
theorem rightT_child {d : Nat} {t : Tr8} (h : rightT (d + 1) t = true) {i : Nat} (hi : i < t.ks.length) : rightT d t.ks[i].2 = true := goodK_right hi (rightT_kid h hi)
theorem all_a : ∀ (d : Nat) (t : Tr8), rightT d t = true → cntT t ≤ 1000000 → AFnP Try.prog 49 [.agg [lstE entE t.es, lstE kidRow t.ks]] (lstE dtE (allT t))
  | 0, t, hr, hc => by cases hr
  | d + 1, t, hr, hc => by
    have ih := all_a d
    rw [kidRow_fun, allT_eq]
    refine afnp_in ty_ok Try.call49 Try.func49 rfl rfl (by decide +kernel) ?_
    have hcnt := cntT_eq t
    (try conv=>whnf)<;>repeat'((first|exact sNo|refine sT ?_|refine sF ?_|((first|refine sD ?_ ?_|refine sE ?_ ?_|refine sN ?_ ?_|refine sG ?_ ?_)<;>intro ht<;>(first|(cases ht;done)|skip))|refine wr ?_|refine ix ?_|refine ati ?_|refine row ?_|refine app ?_|refine dr ?_|refine VAnd.mk ?_ ?_|exact VJe.mk rfl ⟨rfl,rfl⟩|refine .inl (slM ?_)|refine .inl (slO ?_)|refine slM ?_|refine slO ?_|refine slN ?_|refine slS ?_|refine swB (swM fun C hC=>?_)|refine sj ?_|refine .inl (sv ?_)|refine sv ?_|refine cl ?_|refine s3 ?_|refine az ?_|refine rm ?_|refine VBs.own ?_|fail)<;>(try conv=>whnf))
    refine VLp.mk ⟨[.slot 3 79 2], [1], [3, 11], fun k vs h => ∃ i : Nat, vs = [.own 1 i, i64 i] ∧ h = [.blk 0 [lstE entE t.es, lstE kidE t.ks] 34, .row 1 79 2 (((t.es.take i).map (fun e => e.1)).map dtE)] ∧ i ≤ t.es.length ∧ k = t.es.length - i, t.es.length, ?_⟩
    conv => whnf
    refine ⟨⟨0, rfl, rfl, by omega, by omega⟩, ?_⟩
    rintro k vs h ⟨i, rfl, rfl, hi, rfl⟩
    by_cases hin : i < t.es.length
    · (try conv=>whnf)<;>repeat'((first|exact sNo|refine sT ?_|refine sF ?_|((first|refine sD ?_ ?_|refine sE ?_ ?_|refine sN ?_ ?_|refine sG ?_ ?_)<;>intro ht<;>(first|(cases ht;done)|skip))|refine wr ?_|refine ix ?_|refine ati ?_|refine row ?_|refine app ?_|refine dr ?_|refine VAnd.mk ?_ ?_|exact VJe.mk rfl ⟨rfl,rfl⟩|refine .inl (slM ?_)|refine .inl (slO ?_)|refine slM ?_|refine slO ?_|refine slN ?_|refine slS ?_|refine swB (swM fun C hC=>?_)|refine sj ?_|refine .inl (sv ?_)|refine sv ?_|refine cl ?_|refine s3 ?_|refine az ?_|refine rm ?_|refine VBs.own ?_|fail)<;>(try conv=>whnf))
      refine VRd.mk rfl ⟨t.es.length - (i + 1), by omega, i + 1, rfl, ?_, by omega, rfl⟩
      rw [← take_snoc hin]
      simp only [List.map_append]
      rfl
    · obtain rfl : i = t.es.length := by omega
      rw [List.take_length]
      obtain ⟨E0, hE0⟩ : ∃ E0, E0 = t.es.map (fun e => e.1) := ⟨_, rfl⟩
      have hEl : t.es.length = E0.length := by rw [hE0, List.length_map]
      rw [← hE0, hEl]
      rw [hEl] at hcnt
      (try conv=>whnf)<;>repeat'((first|exact sNo|refine sT ?_|refine sF ?_|((first|refine sD ?_ ?_|refine sE ?_ ?_|refine sN ?_ ?_|refine sG ?_ ?_)<;>intro ht<;>(first|(cases ht;done)|skip))|refine wr ?_|refine ix ?_|refine ati ?_|refine row ?_|refine app ?_|refine dr ?_|refine VAnd.mk ?_ ?_|exact VJe.mk rfl ⟨rfl,rfl⟩|refine .inl (slM ?_)|refine .inl (slO ?_)|refine slM ?_|refine slO ?_|refine slN ?_|refine slS ?_|refine swB (swM fun C hC=>?_)|refine sj ?_|refine .inl (sv ?_)|refine sv ?_|refine cl ?_|refine s3 ?_|refine az ?_|refine rm ?_|refine VBs.own ?_|fail)<;>(try conv=>whnf))
      refine VLp.mk ⟨[], [], [3, 24], fun k vs h => ∃ i : Nat, vs = [.own 0 (E0.length + (allK (t.ks.take i)).length), i64 i] ∧ h = [.row 0 79 2 ((E0 ++ allK (t.ks.take i)).map dtE)] ∧ i ≤ t.ks.length ∧ k = t.ks.length - i, t.ks.length, ?_⟩
      conv => whnf
      refine ⟨⟨0, rfl, by simp [allK], by omega, by omega⟩, ?_⟩
      rintro k vs h ⟨i, rfl, rfl, hi, rfl⟩
      by_cases hin : i < t.ks.length
      · have hcx := cntK_mem (List.getElem_mem hin)
        have r := ih t.ks[i].2 (rightT_child hr hin) (by omega)
        have e := allK_take hin
        have l1 := allK_len (t.ks.take i)
        have l2 := cntK_le t.ks i
        have l3 := allT_len t.ks[i].2
        generalize allK (t.ks.take i) = A at *
        generalize allT t.ks[i].2 = B at *
        (try conv=>whnf)<;>repeat'((first|exact sNo|refine sT ?_|refine sF ?_|((first|refine sD ?_ ?_|refine sE ?_ ?_|refine sN ?_ ?_|refine sG ?_ ?_)<;>intro ht<;>(first|(cases ht;done)|skip))|refine wr ?_|refine ix ?_|refine ati ?_|refine row ?_|refine app ?_|refine dr ?_|refine VAnd.mk ?_ ?_|exact VJe.mk rfl ⟨rfl,rfl⟩|refine .inl (slM ?_)|refine .inl (slO ?_)|refine slM ?_|refine slO ?_|refine slN ?_|refine slS ?_|refine swB (swM fun C hC=>?_)|refine sj ?_|refine .inl (sv ?_)|refine sv ?_|refine cl ?_|refine s3 ?_|refine az ?_|refine rm ?_|refine VBs.own ?_|refine cf r ?_|refine cg r ?_|refine cz r ?_|fail)<;>(try conv=>whnf))
        exact VRd.mk rfl ⟨t.ks.length - (i + 1), by omega, i + 1, by rw [e]; simp [i64, Nat.add_assoc], by rw [e]; simp, by omega, rfl⟩
      · obtain rfl : i = t.ks.length := by omega
        rw [List.take_length]
        (try conv=>whnf)<;>repeat'((first|exact sNo|refine sT ?_|refine sF ?_|((first|refine sD ?_ ?_|refine sE ?_ ?_|refine sN ?_ ?_|refine sG ?_ ?_)<;>intro ht<;>(first|(cases ht;done)|skip))|refine wr ?_|refine ix ?_|refine ati ?_|refine row ?_|refine app ?_|refine dr ?_|refine VAnd.mk ?_ ?_|exact VJe.mk rfl ⟨rfl,rfl⟩|refine .inl (slM ?_)|refine .inl (slO ?_)|refine slM ?_|refine slO ?_|refine slN ?_|refine slS ?_|refine swB (swM fun C hC=>?_)|refine sj ?_|refine .inl (sv ?_)|refine sv ?_|refine cl ?_|refine s3 ?_|refine az ?_|refine rm ?_|refine VBs.own ?_|fail)<;>(try conv=>whnf))
        all_goals simp [lstE]
theorem clone_a : ∀ (d : Nat) (t : Tr8), rightT d t = true → cntT t ≤ 1000000 → AFnP Try.prog 69 [.agg [lstE entE t.es, lstE kidRow t.ks]] (.agg [lstE entE t.es, lstE kidRow t.ks])
  | 0, t, hr, hc => by cases hr
  | d + 1, t, hr, hc => by
    have ih := clone_a d
    rw [kidRow_fun]
    refine afnp_in ty_ok Try.call69 Try.func69 rfl rfl (by decide +kernel) ?_
    have hcnt := cntT_eq t
    have r1 := cloneE_a t.es (by omega)
    (try conv=>whnf)<;>repeat'((first|exact sNo|refine sT ?_|refine sF ?_|((first|refine sD ?_ ?_|refine sE ?_ ?_|refine sN ?_ ?_|refine sG ?_ ?_)<;>intro ht<;>(first|(cases ht;done)|skip))|refine wr ?_|refine ix ?_|refine ati ?_|refine row ?_|refine app ?_|refine dr ?_|refine VAnd.mk ?_ ?_|exact VJe.mk rfl ⟨rfl,rfl⟩|refine .inl (slM ?_)|refine .inl (slO ?_)|refine slM ?_|refine slO ?_|refine slN ?_|refine slS ?_|refine swB (swM fun C hC=>?_)|refine sj ?_|refine .inl (sv ?_)|refine sv ?_|refine cl ?_|refine s3 ?_|refine az ?_|refine rm ?_|refine VBs.own ?_|refine cf r1 ?_|refine cg r1 ?_|refine cz r1 ?_|fail)<;>(try conv=>whnf))
    refine VLp.mk ⟨[.cell 2 1 83 3], [], [2, 3, 13], fun k vs h => ∃ i : Nat, vs = [.op 0 0, .op 1 0, i64 i] ∧ h = [.blk 0 [.nils, .nils] 34, .blk 1 [lstE entE t.es, .own 2 i] 34, .row 2 83 3 ((t.ks.take i).map kidE)] ∧ i ≤ t.ks.length ∧ k = t.ks.length - i, t.ks.length, ?_⟩
    conv => whnf
    refine ⟨⟨0, rfl, rfl, by omega, by omega⟩, ?_⟩
    rintro k vs h ⟨i, rfl, rfl, hi, rfl⟩
    by_cases hin : i < t.ks.length
    · have hcx := cntK_mem (List.getElem_mem hin)
      have r := ih t.ks[i].2 (rightT_child hr hin) (by omega)
      (try conv=>whnf)<;>repeat'((first|(refine drx [1006,10] [] [] ?_;(try conv=>whnf);(fail_if_success (show False)))|exact sNo|refine sT ?_|refine sF ?_|((first|refine sD ?_ ?_|refine sE ?_ ?_|refine sN ?_ ?_|refine sG ?_ ?_)<;>intro ht<;>(first|(cases ht;done)|skip))|refine wr ?_|refine ix ?_|refine ati ?_|refine row ?_|refine app ?_|refine dr ?_|refine VAnd.mk ?_ ?_|exact VJe.mk rfl ⟨rfl,rfl⟩|refine .inl (slM ?_)|refine .inl (slO ?_)|refine slM ?_|refine slO ?_|refine slN ?_|refine slS ?_|refine swB (swM fun C hC=>?_)|refine sj ?_|refine .inl (sv ?_)|refine sv ?_|refine cl ?_|refine s3 ?_|refine az ?_|refine rm ?_|refine VBs.own ?_|refine cp r ?_|refine cf r ?_|refine cg r ?_|refine cz r ?_|fail)<;>(try conv=>whnf))
      exact VRd.mk rfl ⟨t.ks.length - (i + 1), by omega, i + 1, rfl, by rw [← take_snoc hin, List.map_append]; rfl, by omega, rfl⟩
    · obtain rfl : i = t.ks.length := by omega
      rw [List.take_length]
      (try conv=>whnf)<;>repeat'((first|exact sNo|refine sT ?_|refine sF ?_|((first|refine sD ?_ ?_|refine sE ?_ ?_|refine sN ?_ ?_|refine sG ?_ ?_)<;>intro ht<;>(first|(cases ht;done)|skip))|refine wr ?_|refine ix ?_|refine ati ?_|refine row ?_|refine app ?_|refine dr ?_|refine VAnd.mk ?_ ?_|exact VJe.mk rfl ⟨rfl,rfl⟩|refine .inl (slM ?_)|refine .inl (slO ?_)|refine slM ?_|refine slO ?_|refine slN ?_|refine slS ?_|refine swB (swM fun C hC=>?_)|refine sj ?_|refine .inl (sv ?_)|refine sv ?_|refine cl ?_|refine s3 ?_|refine az ?_|refine rm ?_|refine VBs.own ?_|fail)<;>(try conv=>whnf))
      all_goals rfl
mutual
def deepT : Tr8 → Nat
  | .mk _ ks => deepK ks + 1
def deepK : List (ByteArray × Tr8) → Nat
  | [] => 0
  | x :: r => Nat.max (deepX x) (deepK r)
def deepX : ByteArray × Tr8 → Nat
  | (_, t) => deepT t
end
theorem deepT_eq (t : Tr8) : deepT t = deepK t.ks + 1 := by cases t; rfl
theorem deepX_eq (x : ByteArray × Tr8) : deepX x = deepT x.2 := by obtain ⟨k, t⟩ := x; rfl
theorem deepK_append (a b : List (ByteArray × Tr8)) : deepK (a ++ b) = Nat.max (deepK a) (deepK b) := by
  induction a with
  | nil => simp [deepK]
  | cons x a ih => simp only [List.cons_append, deepK, ih]; exact (Nat.max_assoc ..).symm
theorem deepK_take {ks : List (ByteArray × Tr8)} {i : Nat} (h : i < ks.length) : deepK (ks.take (i + 1)) = Nat.max (deepK (ks.take i)) (deepT ks[i].2) := by
  rw [List.take_succ_eq_append_getElem h, deepK_append]
  simp [deepK, deepX_eq]
theorem deepK_le {n : Nat} : ∀ {ks : List (ByteArray × Tr8)}, (∀ x ∈ ks, deepT x.2 ≤ n) → deepK ks ≤ n
  | [], _ => Nat.zero_le _
  | x :: r, h => by
    rw [deepK, deepX_eq]
    exact Nat.max_le.2 ⟨h x (List.mem_cons_self ..), deepK_le fun y hy => h y (List.mem_cons_of_mem _ hy)⟩
theorem deepT_le : ∀ (d : Nat) (t : Tr8), rightT d t = true → deepT t ≤ d
  | 0, t, h => by cases h
  | d + 1, t, h => by
    rw [deepT_eq]
    have : deepK t.ks ≤ d := deepK_le fun x hx => by
      obtain ⟨i, hi, rfl⟩ := List.getElem_of_mem hx
      exact deepT_le d _ (rightT_child h hi)
    omega
theorem tclone_t (t : Tr8) (hr : rightT 5 t = true) (hc : cntT t ≤ 1000000) : AFnP Try.prog 58 [.agg [lstE entE t.es, lstE kidRow t.ks]] (.agg [lstE entE t.es, lstE kidRow t.ks]) := by
  refine afnp_in ty_ok Try.call58 Try.func58 rfl rfl (by decide +kernel) ?_
  have r1 := tright_a t hc
  rw [hr] at r1
  have r2 := clone_a 5 t hr hc
  (try conv=>whnf)<;>repeat'((first|exact sNo|refine sT ?_|refine sF ?_|((first|refine sD ?_ ?_|refine sE ?_ ?_|refine sN ?_ ?_|refine sG ?_ ?_)<;>intro ht<;>(first|(cases ht;done)|skip))|refine wr ?_|refine ix ?_|refine ati ?_|refine row ?_|refine app ?_|refine dr ?_|refine VAnd.mk ?_ ?_|exact VJe.mk rfl ⟨rfl,rfl⟩|refine .inl (slM ?_)|refine .inl (slO ?_)|refine slM ?_|refine slO ?_|refine slN ?_|refine slS ?_|refine swB (swM fun C hC=>?_)|refine sj ?_|refine .inl (sv ?_)|refine sv ?_|refine cl ?_|refine s3 ?_|refine az ?_|refine rm ?_|refine VBs.own ?_|refine cf r1 ?_|refine cg r1 ?_|refine cz r1 ?_|refine cf r2 ?_|refine cg r2 ?_|refine cz r2 ?_|fail)<;>(try conv=>whnf))
  all_goals rfl
end Go.Proofs.Ytlghgdgpbnlpmaa
/- What is proved: what Get and Wrap of package tree answer. Conditions: none. -/
namespace Go.Proofs.Ytlghgdgpbnlpmaa
open Go.RowKit
set_option linter.unusedVariables false
set_option linter.unusedSimpArgs false
set_option maxRecDepth 100000
set_option maxHeartbeats 16000000
def eqKey (a b : ByteArray) : Bool := a.toList == b.toList
end Go.Proofs.Ytlghgdgpbnlpmaa
/- What is proved: what Same of chapter 08's reference and awake of its law answer. Conditions: none. -/
namespace Go.Proofs.Ytlghgdgpbnlpmaa
open Go.RowKit
set_option linter.unusedVariables false
set_option linter.unusedSimpArgs false
set_option maxRecDepth 100000
set_option maxHeartbeats 16000000
def eqEnt (a b : Ent8) : Bool := a.1.1 == b.1.1 && (a.1.2 == b.1.2 && (a.2.1.toList == b.2.1.toList && (a.2.2 == b.2.2 && true)))
def eqEs (a b : List Ent8) : Bool := (List.range a.length).all fun i => match a[i]?, b[i]? with | some x, some y => eqEnt x y | _, _ => false
def eqKs (f : Tr8 → Tr8 → Bool) (a b : List (ByteArray × Tr8)) : Bool := (List.range a.length).all fun i => match a[i]?, b[i]? with | some x, some y => eqKey x.1 y.1 && f x.2 y.2 | _, _ => false
/-- are all alike, up to some depth? -/
def sameT : Nat → Tr8 → Tr8 → Bool
  | 0, _, _ => false
  | d + 1, a, b => (decide (a.es.length = b.es.length) && decide (a.ks.length = b.ks.length)) && (eqEs a.es b.es && eqKs (sameT d) a.ks b.ks)
theorem all_no {n i : Nat} {p : Nat → Bool} (hi : i < n) (h : p i = false) : (List.range n).all p = false := by rw [List.all_eq_false]; exact ⟨i, List.mem_range.2 hi, by rw [h]; decide⟩
theorem all_yes {n : Nat} {p : Nat → Bool} (h : ∀ i, i < n → p i = true) : (List.range n).all p = true := by rw [List.all_eq_true]; intro i hi; exact h i (List.mem_range.1 hi)
theorem same_a : ∀ (d : Nat) (a b : Tr8), deepT a ≤ d → cntT a ≤ 1000000 → cntT b ≤ 1000000 → AFnP Try.prog 40 [.agg [lstE entE a.es, lstE kidRow a.ks], .agg [lstE entE b.es, lstE kidRow b.ks]] (.bool (sameT d a b))
  | 0, a, b, hd, ha, hb => by rw [deepT_eq] at hd; omega
  | d + 1, a, b, hd, ha, hb => by
    have ih := same_a d
    rw [kidRow_fun]
    refine afnp_in ty_ok Try.call40 Try.func40 rfl rfl (by decide +kernel) ?_
    have ca := cntT_eq a
    have cb := cntT_eq b
    rw [deepT_eq] at hd
    have no : ∀ {x : Bool}, sameT (d + 1) a b = x → x = false → AV.bool false = AV.bool (sameT (d + 1) a b) := fun h h2 => by rw [h, h2]
    by_cases h1 : a.es.length = b.es.length
    · by_cases h2 : a.ks.length = b.ks.length
      · have hs : sameT (d + 1) a b = (eqEs a.es b.es && eqKs (sameT d) a.ks b.ks) := by rw [sameT, decide_eq_true h1, decide_eq_true h2]; rfl
        (try conv=>whnf)<;>repeat'((first|exact sNo|refine sT ?_|refine sF ?_|((first|refine sD ?_ ?_|refine sE ?_ ?_|refine sN ?_ ?_|refine sG ?_ ?_)<;>intro ht<;>(first|(cases ht;done)|skip))|refine wr ?_|refine ix ?_|refine ati ?_|refine row ?_|refine app ?_|refine dr ?_|refine VAnd.mk ?_ ?_|exact VJe.mk rfl ⟨rfl,rfl⟩|refine .inl (slM ?_)|refine .inl (slO ?_)|refine slM ?_|refine slO ?_|refine slN ?_|refine slS ?_|refine swB (swM fun C hC=>?_)|refine sj ?_|refine .inl (sv ?_)|refine sv ?_|refine cl ?_|refine s3 ?_|refine az ?_|refine rm ?_|refine VBs.own ?_|fail)<;>(try conv=>whnf))
        refine VLp.mk ⟨[], [2, 3], [26], fun k vs h => ∃ i : Nat, vs = [i64 i] ∧ h = [.blk 0 [lstE entE a.es, lstE kidE a.ks] 34, .blk 1 [lstE entE b.es, lstE kidE b.ks] 34] ∧ i ≤ a.es.length ∧ k = a.es.length - i ∧ ∀ j (hj : j < i) (h3 : j < a.es.length) (h4 : j < b.es.length), eqEnt a.es[j] b.es[j] = true, a.es.length, ?_⟩
        conv => whnf
        refine ⟨⟨0, rfl, rfl, by omega, by omega, fun j hj => by omega⟩, ?_⟩
        rintro k vs h ⟨i, rfl, rfl, hi, rfl, hg⟩
        by_cases hin : i < a.es.length
        · have hin2 : i < b.es.length := by omega
          cases he : eqEnt a.es[i] b.es[i]
          · have hE : eqEs a.es b.es = false := all_no hin (by rw [List.getElem?_eq_getElem hin, List.getElem?_eq_getElem hin2]; exact he)
            rw [hE, Bool.false_and] at hs
            unfold eqEnt at he
            have he2 := congrArg (fun x => !x) he
            (try conv=>whnf)<;>repeat'((first|exact sNo|refine sT ?_|refine sF ?_|((first|refine sD ?_ ?_|refine sE ?_ ?_|refine sN ?_ ?_|refine sG ?_ ?_)<;>intro ht<;>(first|(cases ht;done)|skip))|refine wr ?_|refine ix ?_|refine ati ?_|refine row ?_|refine app ?_|refine dr ?_|refine VAnd.mk ?_ ?_|exact VJe.mk rfl ⟨rfl,rfl⟩|refine .inl (slM ?_)|refine .inl (slO ?_)|refine slM ?_|refine slO ?_|refine slN ?_|refine slS ?_|refine swB (swM fun C hC=>?_)|refine sj ?_|refine .inl (sv ?_)|refine sv ?_|refine cl ?_|refine s3 ?_|refine az ?_|refine rm ?_|refine VBs.own ?_|fail)<;>(try conv=>whnf))
            all_goals first
              | exact no hs rfl
              | (exfalso; rw [he] at ht; cases ht)
          · have hstep : ∀ j (hj : j < i + 1) (h3 : j < a.es.length) (h4 : j < b.es.length), eqEnt a.es[j] b.es[j] = true := fun j hj h3 h4 => by rcases Nat.lt_succ_iff_lt_or_eq.1 hj with h | rfl; exact hg j h h3 h4; exact he
            unfold eqEnt at he
            (try conv=>whnf)<;>repeat'((first|exact sNo|refine sT ?_|refine sF ?_|((first|refine sD ?_ ?_|refine sE ?_ ?_|refine sN ?_ ?_|refine sG ?_ ?_)<;>intro ht<;>(first|(cases ht;done)|skip))|refine wr ?_|refine ix ?_|refine ati ?_|refine row ?_|refine app ?_|refine dr ?_|refine VAnd.mk ?_ ?_|exact VJe.mk rfl ⟨rfl,rfl⟩|refine .inl (slM ?_)|refine .inl (slO ?_)|refine slM ?_|refine slO ?_|refine slN ?_|refine slS ?_|refine swB (swM fun C hC=>?_)|refine sj ?_|refine .inl (sv ?_)|refine sv ?_|refine cl ?_|refine s3 ?_|refine az ?_|refine rm ?_|refine VBs.own ?_|fail)<;>(try conv=>whnf))
            all_goals first
              | exact VRd.mk rfl ⟨a.es.length - (i + 1), by omega, i + 1, rfl, rfl, by omega, rfl, hstep⟩
              | (exfalso; rw [he] at ht; cases ht)
        · have hE : eqEs a.es b.es = true := all_yes fun j hj => by rw [List.getElem?_eq_getElem hj, List.getElem?_eq_getElem (show j < b.es.length by omega)]; exact hg j (by omega) hj (by omega)
          rw [hE, Bool.true_and] at hs
          clear hg
          (try conv=>whnf)<;>repeat'((first|exact sNo|refine sT ?_|refine sF ?_|((first|refine sD ?_ ?_|refine sE ?_ ?_|refine sN ?_ ?_|refine sG ?_ ?_)<;>intro ht<;>(first|(cases ht;done)|skip))|refine wr ?_|refine ix ?_|refine ati ?_|refine row ?_|refine app ?_|refine dr ?_|refine VAnd.mk ?_ ?_|exact VJe.mk rfl ⟨rfl,rfl⟩|refine .inl (slM ?_)|refine .inl (slO ?_)|refine slM ?_|refine slO ?_|refine slN ?_|refine slS ?_|refine swB (swM fun C hC=>?_)|refine sj ?_|refine .inl (sv ?_)|refine sv ?_|refine cl ?_|refine s3 ?_|refine az ?_|refine rm ?_|refine VBs.own ?_|fail)<;>(try conv=>whnf))
          refine VLp.mk ⟨[], [2, 3], [44], fun k vs h => ∃ i : Nat, vs = [i64 i] ∧ h = [.blk 0 [lstE entE a.es, lstE kidE a.ks] 34, .blk 1 [lstE entE b.es, lstE kidE b.ks] 34] ∧ i ≤ a.ks.length ∧ k = a.ks.length - i ∧ ∀ j (hj : j < i) (h3 : j < a.ks.length) (h4 : j < b.ks.length), (eqKey a.ks[j].1 b.ks[j].1 && sameT d a.ks[j].2 b.ks[j].2) = true, a.ks.length, ?_⟩
          conv => whnf
          refine ⟨⟨0, rfl, rfl, by omega, by omega, fun j hj => by omega⟩, ?_⟩
          rintro k vs h ⟨i, rfl, rfl, hi, rfl, hg⟩
          by_cases hin : i < a.ks.length
          · have hin2 : i < b.ks.length := by omega
            have m1 := cntK_mem (List.getElem_mem hin)
            have m2 := cntK_mem (List.getElem_mem hin2)
            have m3 : deepT a.ks[i].2 ≤ deepK a.ks := by
              have := deepK_take hin
              have h5 : deepK (a.ks.take (i + 1)) ≤ deepK a.ks := by
                have := deepK_append (a.ks.take (i + 1)) (a.ks.drop (i + 1))
                rw [List.take_append_drop] at this
                rw [this]; exact Nat.le_max_left _ _
              rw [this] at h5
              exact Nat.le_trans (Nat.le_max_right _ _) h5
            have r := ih a.ks[i].2 b.ks[i].2 (by omega) (by omega) (by omega)
            have hno : (eqKey a.ks[i].1 b.ks[i].1 && sameT d a.ks[i].2 b.ks[i].2) = false → eqKs (sameT d) a.ks b.ks = false := fun h => all_no hin (by rw [List.getElem?_eq_getElem hin, List.getElem?_eq_getElem hin2]; exact h)
            have hstep : (eqKey a.ks[i].1 b.ks[i].1 && sameT d a.ks[i].2 b.ks[i].2) = true → ∀ j (hj : j < i + 1) (h3 : j < a.ks.length) (h4 : j < b.ks.length), (eqKey a.ks[j].1 b.ks[j].1 && sameT d a.ks[j].2 b.ks[j].2) = true := fun he j hj h3 h4 => by rcases Nat.lt_succ_iff_lt_or_eq.1 hj with h | rfl; exact hg j h h3 h4; exact he
            generalize sameT d a.ks[i].2 b.ks[i].2 = st at *
            by_cases hk : a.ks[i].1.toList = b.ks[i].1.toList
            · have hk2 : eqKey a.ks[i].1 b.ks[i].1 = true := by unfold eqKey; rw [hk]; exact beq_self_eq_true _
              rw [hk2, Bool.true_and] at hno hstep
              cases st
              · rw [hno rfl] at hs
                (try conv=>whnf)<;>repeat'((first|exact sNo|refine sT ?_|refine sF ?_|((first|refine sD ?_ ?_|refine sE ?_ ?_|refine sN ?_ ?_|refine sG ?_ ?_)<;>intro ht<;>(first|(cases ht;done)|skip))|refine wr ?_|refine ix ?_|refine ati ?_|refine row ?_|refine app ?_|refine dr ?_|refine VAnd.mk ?_ ?_|exact VJe.mk rfl ⟨rfl,rfl⟩|refine .inl (slM ?_)|refine .inl (slO ?_)|refine slM ?_|refine slO ?_|refine slN ?_|refine slS ?_|refine swB (swM fun C hC=>?_)|refine sj ?_|refine .inl (sv ?_)|refine sv ?_|refine cl ?_|refine s3 ?_|refine az ?_|refine rm ?_|refine VBs.own ?_|refine cf r ?_|refine cg r ?_|refine cz r ?_|fail)<;>(try conv=>whnf))
                all_goals exact no hs rfl
              · (try conv=>whnf)<;>repeat'((first|exact sNo|refine sT ?_|refine sF ?_|((first|refine sD ?_ ?_|refine sE ?_ ?_|refine sN ?_ ?_|refine sG ?_ ?_)<;>intro ht<;>(first|(cases ht;done)|skip))|refine wr ?_|refine ix ?_|refine ati ?_|refine row ?_|refine app ?_|refine dr ?_|refine VAnd.mk ?_ ?_|exact VJe.mk rfl ⟨rfl,rfl⟩|refine .inl (slM ?_)|refine .inl (slO ?_)|refine slM ?_|refine slO ?_|refine slN ?_|refine slS ?_|refine swB (swM fun C hC=>?_)|refine sj ?_|refine .inl (sv ?_)|refine sv ?_|refine cl ?_|refine s3 ?_|refine az ?_|refine rm ?_|refine VBs.own ?_|refine cf r ?_|refine cg r ?_|refine cz r ?_|fail)<;>(try conv=>whnf))
                all_goals first
                  | exact absurd hk (by assumption)
                  | exact VRd.mk rfl ⟨a.ks.length - (i + 1), by omega, i + 1, rfl, rfl, by omega, rfl, hstep rfl⟩
            · have hk2 : eqKey a.ks[i].1 b.ks[i].1 = false := by unfold eqKey; exact beq_eq_false_iff_ne.2 hk
              rw [hk2, Bool.false_and] at hno
              rw [hno rfl] at hs
              (try conv=>whnf)<;>repeat'((first|exact sNo|refine sT ?_|refine sF ?_|((first|refine sD ?_ ?_|refine sE ?_ ?_|refine sN ?_ ?_|refine sG ?_ ?_)<;>intro ht<;>(first|(cases ht;done)|skip))|refine wr ?_|refine ix ?_|refine ati ?_|refine row ?_|refine app ?_|refine dr ?_|refine VAnd.mk ?_ ?_|exact VJe.mk rfl ⟨rfl,rfl⟩|refine .inl (slM ?_)|refine .inl (slO ?_)|refine slM ?_|refine slO ?_|refine slN ?_|refine slS ?_|refine swB (swM fun C hC=>?_)|refine sj ?_|refine .inl (sv ?_)|refine sv ?_|refine cl ?_|refine s3 ?_|refine az ?_|refine rm ?_|refine VBs.own ?_|refine cf r ?_|refine cg r ?_|refine cz r ?_|fail)<;>(try conv=>whnf))
              all_goals first
                | exact no hs rfl
                | (exfalso; exact hk (by assumption))
          · have hK : eqKs (sameT d) a.ks b.ks = true := all_yes fun j hj => by rw [List.getElem?_eq_getElem hj, List.getElem?_eq_getElem (show j < b.ks.length by omega)]; exact hg j (by omega) hj (by omega)
            rw [hK] at hs
            (try conv=>whnf)<;>repeat'((first|exact sNo|refine sT ?_|refine sF ?_|((first|refine sD ?_ ?_|refine sE ?_ ?_|refine sN ?_ ?_|refine sG ?_ ?_)<;>intro ht<;>(first|(cases ht;done)|skip))|refine wr ?_|refine ix ?_|refine ati ?_|refine row ?_|refine app ?_|refine dr ?_|refine VAnd.mk ?_ ?_|exact VJe.mk rfl ⟨rfl,rfl⟩|refine .inl (slM ?_)|refine .inl (slO ?_)|refine slM ?_|refine slO ?_|refine slN ?_|refine slS ?_|refine swB (swM fun C hC=>?_)|refine sj ?_|refine .inl (sv ?_)|refine sv ?_|refine cl ?_|refine s3 ?_|refine az ?_|refine rm ?_|refine VBs.own ?_|fail)<;>(try conv=>whnf))
            exact congrArg AV.bool hs.symm
      · have hs : sameT (d + 1) a b = false := by rw [sameT, decide_eq_false h2, Bool.and_false, Bool.false_and]
        (try conv=>whnf)<;>repeat'((first|exact sNo|refine sT ?_|refine sF ?_|((first|refine sD ?_ ?_|refine sE ?_ ?_|refine sN ?_ ?_|refine sG ?_ ?_)<;>intro ht<;>(first|(cases ht;done)|skip))|refine wr ?_|refine ix ?_|refine ati ?_|refine row ?_|refine app ?_|refine dr ?_|refine VAnd.mk ?_ ?_|exact VJe.mk rfl ⟨rfl,rfl⟩|refine .inl (slM ?_)|refine .inl (slO ?_)|refine slM ?_|refine slO ?_|refine slN ?_|refine slS ?_|refine swB (swM fun C hC=>?_)|refine sj ?_|refine .inl (sv ?_)|refine sv ?_|refine cl ?_|refine s3 ?_|refine az ?_|refine rm ?_|refine VBs.own ?_|fail)<;>(try conv=>whnf))
        all_goals exact no hs rfl
    · have hs : sameT (d + 1) a b = false := by rw [sameT, decide_eq_false h1]; rfl
      (try conv=>whnf)<;>repeat'((first|exact sNo|refine sT ?_|refine sF ?_|((first|refine sD ?_ ?_|refine sE ?_ ?_|refine sN ?_ ?_|refine sG ?_ ?_)<;>intro ht<;>(first|(cases ht;done)|skip))|refine wr ?_|refine ix ?_|refine ati ?_|refine row ?_|refine app ?_|refine dr ?_|refine VAnd.mk ?_ ?_|exact VJe.mk rfl ⟨rfl,rfl⟩|refine .inl (slM ?_)|refine .inl (slO ?_)|refine slM ?_|refine slO ?_|refine slN ?_|refine slS ?_|refine swB (swM fun C hC=>?_)|refine sj ?_|refine .inl (sv ?_)|refine sv ?_|refine cl ?_|refine s3 ?_|refine az ?_|refine rm ?_|refine VBs.own ?_|fail)<;>(try conv=>whnf))
      all_goals exact no hs rfl
theorem same_p {a b : Tr8} (d : Nat) (hd : deepT a ≤ d) (ha : cntT a ≤ 1000000) (hb : cntT b ≤ 1000000) {t : Bool} (ht : sameT d a b = t) : AFnP Try.prog 40 [.agg [lstE entE a.es, lstE kidRow a.ks], .agg [lstE entE b.es, lstE kidRow b.ks]] (.bool t) := by subst ht; exact same_a d a b hd ha hb
def str1 (n : UInt8) : ByteArray := ⟨#[n]⟩
end Go.Proofs.Ytlghgdgpbnlpmaa
/- What is proved: what Same of package tree answers; trees that are alike are equal. Conditions: none. -/
namespace Go.Proofs.Ytlghgdgpbnlpmaa
open Go.RowKit
set_option linter.unusedVariables false
set_option linter.unusedSimpArgs false
set_option maxRecDepth 100000
set_option maxHeartbeats 16000000
theorem eqEnt_refl (a : Ent8) : eqEnt a a = true := by unfold eqEnt; simp
theorem eqEs_refl (a : List Ent8) : eqEs a a = true := all_yes fun i hi => by rw [List.getElem?_eq_getElem hi]; exact eqEnt_refl _
theorem deepK_get {ks : List (ByteArray × Tr8)} {i : Nat} (hin : i < ks.length) : deepT ks[i].2 ≤ deepK ks := by
  have := deepK_take hin
  have h5 : deepK (ks.take (i + 1)) ≤ deepK ks := by
    have := deepK_append (ks.take (i + 1)) (ks.drop (i + 1))
    rw [List.take_append_drop] at this
    rw [this]; exact Nat.le_max_left _ _
  rw [this] at h5
  exact Nat.le_trans (Nat.le_max_right _ _) h5
theorem sameT_refl : ∀ (d : Nat) (a : Tr8), deepT a ≤ d → sameT d a a = true
  | 0, a, h => by rw [deepT_eq] at h; omega
  | d + 1, a, h => by
    rw [deepT_eq] at h
    rw [sameT, eqEs_refl]
    have : eqKs (sameT d) a.ks a.ks = true := all_yes fun i hi => by
      rw [List.getElem?_eq_getElem hi]
      have := deepK_get hi
      simp [eqKey, sameT_refl d a.ks[i].2 (by omega)]
    rw [this]
    simp
/-! depth -/
end Go.Proofs.Ytlghgdgpbnlpmaa
