/- What is proved: what all, clone, deep, Size, Clone of package tree answer. Conditions: none. -/
import Derived.Test.YtlghgdgpbnlpmaaGreatMTa
namespace Go.Proofs.YtlghgdgpbnlpmaaGreat
open Go.RowKit
set_option linter.unusedVariables false
set_option linter.unusedSimpArgs false
set_option maxRecDepth 100000
set_option maxHeartbeats 16000000
def dtE (x : Int × Int) : List AV := [i64 x.1, i64 x.2]
theorem rightT_child {d : Nat} {t : Tr8} (h : rightT (d + 1) t = true) {i : Nat} (hi : i < t.ks.length) : rightT d t.ks[i].2 = true := goodK_right hi (rightT_kid h hi)
theorem all_a : ∀ (d : Nat) (t : Tr8), rightT d t = true → cntT t ≤ 1000000 → AFnP Tryz.prog 109 [.agg [lstE entE t.es, lstE kidRow t.ks]] (lstE dtE (allT t))
  | 0, t, hr, hc => by cases hr
  | d + 1, t, hr, hc => by
    have ih := all_a d
    rw [kidRow_fun, allT_eq]
    refine afnp_in ty_ok Tryz.call109 Tryz.func109 rfl rfl (by decide +kernel) ?_
    have hcnt := cntT_eq t
    (try conv=>whnf)<;>repeat'((first|exact sNo|refine sT ?_|refine sF ?_|((first|refine sD ?_ ?_|refine sE ?_ ?_|refine sN ?_ ?_|refine sG ?_ ?_)<;>intro ht<;>(first|(cases ht;done)|skip))|refine wr ?_|refine ix ?_|refine ati ?_|refine row ?_|refine app ?_|refine dr ?_|refine VBs.own ?_|fail)<;>(try conv=>whnf))
    refine VLp.mk ⟨[.slot 3 124 2], [1], [3, 11], fun k vs h => ∃ i : Nat, vs = [.own 1 i, i64 i] ∧ h = [.blk 0 [lstE entE t.es, lstE kidE t.ks] 37, .row 1 124 2 (((t.es.take i).map (fun e => e.1)).map dtE)] ∧ i ≤ t.es.length ∧ k = t.es.length - i, t.es.length, ?_⟩
    conv => whnf
    refine ⟨⟨0, rfl, rfl, by omega, by omega⟩, ?_⟩
    rintro k vs h ⟨i, rfl, rfl, hi, rfl⟩
    by_cases hin : i < t.es.length
    · (try conv=>whnf)<;>repeat'((first|exact sNo|refine sT ?_|refine sF ?_|((first|refine sD ?_ ?_|refine sE ?_ ?_|refine sN ?_ ?_|refine sG ?_ ?_)<;>intro ht<;>(first|(cases ht;done)|skip))|refine wr ?_|refine ix ?_|refine ati ?_|refine row ?_|refine app ?_|refine dr ?_|refine VBs.own ?_|fail)<;>(try conv=>whnf))
      refine VRd.mk rfl ⟨t.es.length - (i + 1), by omega, i + 1, rfl, ?_, by omega, rfl⟩
      rw [← take_snoc hin]
      simp only [List.map_append]
      rfl
    · obtain rfl : i = t.es.length := by omega
      rw [List.take_length]
      obtain ⟨E0, hE0⟩ : ∃ E0, E0 = t.es.map (fun e => e.1) := ⟨_, rfl⟩
      have hEl : t.es.length = E0.length := by rw [hE0, List.length_map]
      rw [← hE0, hEl]
      rw [hEl] at hcnt
      (try conv=>whnf)<;>repeat'((first|exact sNo|refine sT ?_|refine sF ?_|((first|refine sD ?_ ?_|refine sE ?_ ?_|refine sN ?_ ?_|refine sG ?_ ?_)<;>intro ht<;>(first|(cases ht;done)|skip))|refine wr ?_|refine ix ?_|refine ati ?_|refine row ?_|refine app ?_|refine dr ?_|refine VBs.own ?_|fail)<;>(try conv=>whnf))
      refine VLp.mk ⟨[], [], [3, 24], fun k vs h => ∃ i : Nat, vs = [.own 0 (E0.length + (allK (t.ks.take i)).length), i64 i] ∧ h = [.row 0 124 2 ((E0 ++ allK (t.ks.take i)).map dtE)] ∧ i ≤ t.ks.length ∧ k = t.ks.length - i, t.ks.length, ?_⟩
      conv => whnf
      refine ⟨⟨0, rfl, by simp [allK], by omega, by omega⟩, ?_⟩
      rintro k vs h ⟨i, rfl, rfl, hi, rfl⟩
      by_cases hin : i < t.ks.length
      · have hcx := cntK_mem (List.getElem_mem hin)
        have r := ih t.ks[i].2 (rightT_child hr hin) (by omega)
        have e := allK_take hin
        have l1 := allK_len (t.ks.take i)
        have l2 := cntK_le t.ks i
        have l3 := allT_len t.ks[i].2
        generalize allK (t.ks.take i) = A at *
        generalize allT t.ks[i].2 = B at *
        (try conv=>whnf)<;>repeat'((first|exact sNo|refine sT ?_|refine sF ?_|((first|refine sD ?_ ?_|refine sE ?_ ?_|refine sN ?_ ?_|refine sG ?_ ?_)<;>intro ht<;>(first|(cases ht;done)|skip))|refine wr ?_|refine ix ?_|refine ati ?_|refine row ?_|refine app ?_|refine dr ?_|refine VBs.own ?_|refine cf r ?_|refine cg r ?_|refine cz r ?_|fail)<;>(try conv=>whnf))
        exact VRd.mk rfl ⟨t.ks.length - (i + 1), by omega, i + 1, by rw [e]; simp [i64, Nat.add_assoc], by rw [e]; simp, by omega, rfl⟩
      · obtain rfl : i = t.ks.length := by omega
        rw [List.take_length]
        (try conv=>whnf)<;>repeat'((first|exact sNo|refine sT ?_|refine sF ?_|((first|refine sD ?_ ?_|refine sE ?_ ?_|refine sN ?_ ?_|refine sG ?_ ?_)<;>intro ht<;>(first|(cases ht;done)|skip))|refine wr ?_|refine ix ?_|refine ati ?_|refine row ?_|refine app ?_|refine dr ?_|refine VBs.own ?_|fail)<;>(try conv=>whnf))
        all_goals simp [lstE]
theorem clone_a : ∀ (d : Nat) (t : Tr8), rightT d t = true → cntT t ≤ 1000000 → AFnP Tryz.prog 138 [.agg [lstE entE t.es, lstE kidRow t.ks]] (.agg [lstE entE t.es, lstE kidRow t.ks])
  | 0, t, hr, hc => by cases hr
  | d + 1, t, hr, hc => by
    have ih := clone_a d
    rw [kidRow_fun]
    refine afnp_in ty_ok Tryz.call138 Tryz.func138 rfl rfl (by decide +kernel) ?_
    have hcnt := cntT_eq t
    have r1 := cloneE_a t.es (by omega)
    (try conv=>whnf)<;>repeat'((first|exact sNo|refine sT ?_|refine sF ?_|((first|refine sD ?_ ?_|refine sE ?_ ?_|refine sN ?_ ?_|refine sG ?_ ?_)<;>intro ht<;>(first|(cases ht;done)|skip))|refine wr ?_|refine ix ?_|refine ati ?_|refine row ?_|refine app ?_|refine dr ?_|refine VBs.own ?_|refine cf r1 ?_|refine cg r1 ?_|refine cz r1 ?_|fail)<;>(try conv=>whnf))
    refine VLp.mk ⟨[.cell 2 1 122 3], [], [2, 3, 13], fun k vs h => ∃ i : Nat, vs = [.op 0 0, .op 1 0, i64 i] ∧ h = [.blk 0 [.nils, .nils] 37, .blk 1 [lstE entE t.es, .own 2 i] 37, .row 2 122 3 ((t.ks.take i).map kidE)] ∧ i ≤ t.ks.length ∧ k = t.ks.length - i, t.ks.length, ?_⟩
    conv => whnf
    refine ⟨⟨0, rfl, rfl, by omega, by omega⟩, ?_⟩
    rintro k vs h ⟨i, rfl, rfl, hi, rfl⟩
    by_cases hin : i < t.ks.length
    · have hcx := cntK_mem (List.getElem_mem hin)
      have r := ih t.ks[i].2 (rightT_child hr hin) (by omega)
      (try conv=>whnf)<;>repeat'((first|(refine drx [1006,10] [] [] ?_;(try conv=>whnf);(fail_if_success (show False)))|exact sNo|refine sT ?_|refine sF ?_|((first|refine sD ?_ ?_|refine sE ?_ ?_|refine sN ?_ ?_|refine sG ?_ ?_)<;>intro ht<;>(first|(cases ht;done)|skip))|refine wr ?_|refine ix ?_|refine ati ?_|refine row ?_|refine app ?_|refine dr ?_|refine VBs.own ?_|refine cp r ?_|refine cf r ?_|refine cg r ?_|refine cz r ?_|fail)<;>(try conv=>whnf))
      exact VRd.mk rfl ⟨t.ks.length - (i + 1), by omega, i + 1, rfl, by rw [← take_snoc hin, List.map_append]; rfl, by omega, rfl⟩
    · obtain rfl : i = t.ks.length := by omega
      rw [List.take_length]
      (try conv=>whnf)<;>repeat'((first|exact sNo|refine sT ?_|refine sF ?_|((first|refine sD ?_ ?_|refine sE ?_ ?_|refine sN ?_ ?_|refine sG ?_ ?_)<;>intro ht<;>(first|(cases ht;done)|skip))|refine wr ?_|refine ix ?_|refine ati ?_|refine row ?_|refine app ?_|refine dr ?_|refine VBs.own ?_|fail)<;>(try conv=>whnf))
      all_goals rfl
mutual
def deepT : Tr8 → Nat
  | .mk _ ks => deepK ks + 1
def deepK : List (ByteArray × Tr8) → Nat
  | [] => 0
  | x :: r => Nat.max (deepX x) (deepK r)
def deepX : ByteArray × Tr8 → Nat
  | (_, t) => deepT t
end
theorem deepT_eq (t : Tr8) : deepT t = deepK t.ks + 1 := by cases t; rfl
theorem deepX_eq (x : ByteArray × Tr8) : deepX x = deepT x.2 := by obtain ⟨k, t⟩ := x; rfl
theorem deepK_append (a b : List (ByteArray × Tr8)) : deepK (a ++ b) = Nat.max (deepK a) (deepK b) := by
  induction a with
  | nil => simp [deepK]
  | cons x a ih => simp only [List.cons_append, deepK, ih]; exact (Nat.max_assoc ..).symm
theorem deepK_take {ks : List (ByteArray × Tr8)} {i : Nat} (h : i < ks.length) : deepK (ks.take (i + 1)) = Nat.max (deepK (ks.take i)) (deepT ks[i].2) := by
  rw [List.take_succ_eq_append_getElem h, deepK_append]
  simp [deepK, deepX_eq]
theorem deepK_le {n : Nat} : ∀ {ks : List (ByteArray × Tr8)}, (∀ x ∈ ks, deepT x.2 ≤ n) → deepK ks ≤ n
  | [], _ => Nat.zero_le _
  | x :: r, h => by
    rw [deepK, deepX_eq]
    exact Nat.max_le.2 ⟨h x (List.mem_cons_self ..), deepK_le fun y hy => h y (List.mem_cons_of_mem _ hy)⟩
theorem deepT_le : ∀ (d : Nat) (t : Tr8), rightT d t = true → deepT t ≤ d
  | 0, t, h => by cases h
  | d + 1, t, h => by
    rw [deepT_eq]
    have : deepK t.ks ≤ d := deepK_le fun x hx => by
      obtain ⟨i, hi, rfl⟩ := List.getElem_of_mem hx
      exact deepT_le d _ (rightT_child h hi)
    omega
theorem tclone_t (t : Tr8) (hr : rightT 5 t = true) (hc : cntT t ≤ 1000000) : AFnP Tryz.prog 118 [.agg [lstE entE t.es, lstE kidRow t.ks]] (.agg [lstE entE t.es, lstE kidRow t.ks]) := by
  refine afnp_in ty_ok Tryz.call118 Tryz.func118 rfl rfl (by decide +kernel) ?_
  have r1 := tright_a t hc
  rw [hr] at r1
  have r2 := clone_a 5 t hr hc
  (try conv=>whnf)<;>repeat'((first|exact sNo|refine sT ?_|refine sF ?_|((first|refine sD ?_ ?_|refine sE ?_ ?_|refine sN ?_ ?_|refine sG ?_ ?_)<;>intro ht<;>(first|(cases ht;done)|skip))|refine wr ?_|refine ix ?_|refine ati ?_|refine row ?_|refine app ?_|refine dr ?_|refine VBs.own ?_|refine cf r1 ?_|refine cg r1 ?_|refine cz r1 ?_|refine cf r2 ?_|refine cg r2 ?_|refine cz r2 ?_|fail)<;>(try conv=>whnf))
  all_goals rfl
theorem tclone_f (t : Tr8) (hr : rightT 5 t = false) (hc : cntT t ≤ 1000000) : AFnP Tryz.prog 118 [.agg [lstE entE t.es, lstE kidRow t.ks]] (.agg [.lst 0 [], .lst 0 []]) := by
  refine afnp_in ty_ok Tryz.call118 Tryz.func118 rfl rfl (by decide +kernel) ?_
  have r1 := tright_a t hc
  rw [hr] at r1
  (try conv=>whnf)<;>repeat'((first|exact sNo|refine sT ?_|refine sF ?_|((first|refine sD ?_ ?_|refine sE ?_ ?_|refine sN ?_ ?_|refine sG ?_ ?_)<;>intro ht<;>(first|(cases ht;done)|skip))|refine wr ?_|refine ix ?_|refine ati ?_|refine row ?_|refine app ?_|refine dr ?_|refine VBs.own ?_|refine cf r1 ?_|refine cg r1 ?_|refine cz r1 ?_|fail)<;>(try conv=>whnf))
  all_goals rfl
end Go.Proofs.YtlghgdgpbnlpmaaGreat
/- What is proved: what Get and Wrap of package tree answer. Conditions: none. -/
namespace Go.Proofs.YtlghgdgpbnlpmaaGreat
open Go.RowKit
set_option linter.unusedVariables false
set_option linter.unusedSimpArgs false
set_option maxRecDepth 100000
set_option maxHeartbeats 16000000
def eqKey (a b : ByteArray) : Bool := a.toList == b.toList
end Go.Proofs.YtlghgdgpbnlpmaaGreat
/- What is proved: what Same of chapter 08's reference and awake of its law answer. Conditions: none. -/
namespace Go.Proofs.YtlghgdgpbnlpmaaGreat
open Go.RowKit
set_option linter.unusedVariables false
set_option linter.unusedSimpArgs false
set_option maxRecDepth 100000
set_option maxHeartbeats 16000000
def eqEnt (a b : Ent8) : Bool := a.1.1 == b.1.1 && (a.1.2 == b.1.2 && (a.2.1.toList == b.2.1.toList && (a.2.2 == b.2.2 && true)))
def eqEs (a b : List Ent8) : Bool := (List.range a.length).all fun i => match a[i]?, b[i]? with | some x, some y => eqEnt x y | _, _ => false
def eqKs (f : Tr8 → Tr8 → Bool) (a b : List (ByteArray × Tr8)) : Bool := (List.range a.length).all fun i => match a[i]?, b[i]? with | some x, some y => eqKey x.1 y.1 && f x.2 y.2 | _, _ => false
/-- are all alike, up to some depth? -/
def sameT : Nat → Tr8 → Tr8 → Bool
  | 0, _, _ => false
  | d + 1, a, b => (decide (a.es.length = b.es.length) && decide (a.ks.length = b.ks.length)) && (eqEs a.es b.es && eqKs (sameT d) a.ks b.ks)
theorem all_no {n i : Nat} {p : Nat → Bool} (hi : i < n) (h : p i = false) : (List.range n).all p = false := by rw [List.all_eq_false]; exact ⟨i, List.mem_range.2 hi, by rw [h]; decide⟩
theorem all_yes {n : Nat} {p : Nat → Bool} (h : ∀ i, i < n → p i = true) : (List.range n).all p = true := by rw [List.all_eq_true]; intro i hi; exact h i (List.mem_range.1 hi)
theorem same_a : ∀ (d : Nat) (a b : Tr8), deepT a ≤ d → cntT a ≤ 1000000 → cntT b ≤ 1000000 → AFnP Tryz.prog 94 [.agg [lstE entE a.es, lstE kidRow a.ks], .agg [lstE entE b.es, lstE kidRow b.ks]] (.bool (sameT d a b))
  | 0, a, b, hd, ha, hb => by rw [deepT_eq] at hd; omega
  | d + 1, a, b, hd, ha, hb => by
    have ih := same_a d
    rw [kidRow_fun]
    refine afnp_in ty_ok Tryz.call94 Tryz.func94 rfl rfl (by decide +kernel) ?_
    have ca := cntT_eq a
    have cb := cntT_eq b
    rw [deepT_eq] at hd
    have no : ∀ {x : Bool}, sameT (d + 1) a b = x → x = false → AV.bool false = AV.bool (sameT (d + 1) a b) := fun h h2 => by rw [h, h2]
    by_cases h1 : a.es.length = b.es.length
    · by_cases h2 : a.ks.length = b.ks.length
      · have hs : sameT (d + 1) a b = (eqEs a.es b.es && eqKs (sameT d) a.ks b.ks) := by rw [sameT, decide_eq_true h1, decide_eq_true h2]; rfl
        (try conv=>whnf)<;>repeat'((first|exact sNo|refine sT ?_|refine sF ?_|((first|refine sD ?_ ?_|refine sE ?_ ?_|refine sN ?_ ?_|refine sG ?_ ?_)<;>intro ht<;>(first|(cases ht;done)|skip))|refine wr ?_|refine ix ?_|refine ati ?_|refine row ?_|refine app ?_|refine dr ?_|refine VBs.own ?_|fail)<;>(try conv=>whnf))
        refine VLp.mk ⟨[], [2, 3], [26], fun k vs h => ∃ i : Nat, vs = [i64 i] ∧ h = [.blk 0 [lstE entE a.es, lstE kidE a.ks] 37, .blk 1 [lstE entE b.es, lstE kidE b.ks] 37] ∧ i ≤ a.es.length ∧ k = a.es.length - i ∧ ∀ j (hj : j < i) (h3 : j < a.es.length) (h4 : j < b.es.length), eqEnt a.es[j] b.es[j] = true, a.es.length, ?_⟩
        conv => whnf
        refine ⟨⟨0, rfl, rfl, by omega, by omega, fun j hj => by omega⟩, ?_⟩
        rintro k vs h ⟨i, rfl, rfl, hi, rfl, hg⟩
        by_cases hin : i < a.es.length
        · have hin2 : i < b.es.length := by omega
          cases he : eqEnt a.es[i] b.es[i]
          · have hE : eqEs a.es b.es = false := all_no hin (by rw [List.getElem?_eq_getElem hin, List.getElem?_eq_getElem hin2]; exact he)
            rw [hE, Bool.false_and] at hs
            unfold eqEnt at he
            have he2 := congrArg (fun x => !x) he
            (try conv=>whnf)<;>repeat'((first|exact sNo|refine sT ?_|refine sF ?_|((first|refine sD ?_ ?_|refine sE ?_ ?_|refine sN ?_ ?_|refine sG ?_ ?_)<;>intro ht<;>(first|(cases ht;done)|skip))|refine wr ?_|refine ix ?_|refine ati ?_|refine row ?_|refine app ?_|refine dr ?_|refine VBs.own ?_|fail)<;>(try conv=>whnf))
            all_goals first
              | exact no hs rfl
              | (exfalso; rw [he] at ht; cases ht)
          · have hstep : ∀ j (hj : j < i + 1) (h3 : j < a.es.length) (h4 : j < b.es.length), eqEnt a.es[j] b.es[j] = true := fun j hj h3 h4 => by rcases Nat.lt_succ_iff_lt_or_eq.1 hj with h | rfl; exact hg j h h3 h4; exact he
            unfold eqEnt at he
            (try conv=>whnf)<;>repeat'((first|exact sNo|refine sT ?_|refine sF ?_|((first|refine sD ?_ ?_|refine sE ?_ ?_|refine sN ?_ ?_|refine sG ?_ ?_)<;>intro ht<;>(first|(cases ht;done)|skip))|refine wr ?_|refine ix ?_|refine ati ?_|refine row ?_|refine app ?_|refine dr ?_|refine VBs.own ?_|fail)<;>(try conv=>whnf))
            all_goals first
              | exact VRd.mk rfl ⟨a.es.length - (i + 1), by omega, i + 1, rfl, rfl, by omega, rfl, hstep⟩
              | (exfalso; rw [he] at ht; cases ht)
        · have hE : eqEs a.es b.es = true := all_yes fun j hj => by rw [List.getElem?_eq_getElem hj, List.getElem?_eq_getElem (show j < b.es.length by omega)]; exact hg j (by omega) hj (by omega)
          rw [hE, Bool.true_and] at hs
          clear hg
          (try conv=>whnf)<;>repeat'((first|exact sNo|refine sT ?_|refine sF ?_|((first|refine sD ?_ ?_|refine sE ?_ ?_|refine sN ?_ ?_|refine sG ?_ ?_)<;>intro ht<;>(first|(cases ht;done)|skip))|refine wr ?_|refine ix ?_|refine ati ?_|refine row ?_|refine app ?_|refine dr ?_|refine VBs.own ?_|fail)<;>(try conv=>whnf))
          refine VLp.mk ⟨[], [2, 3], [44], fun k vs h => ∃ i : Nat, vs = [i64 i] ∧ h = [.blk 0 [lstE entE a.es, lstE kidE a.ks] 37, .blk 1 [lstE entE b.es, lstE kidE b.ks] 37] ∧ i ≤ a.ks.length ∧ k = a.ks.length - i ∧ ∀ j (hj : j < i) (h3 : j < a.ks.length) (h4 : j < b.ks.length), (eqKey a.ks[j].1 b.ks[j].1 && sameT d a.ks[j].2 b.ks[j].2) = true, a.ks.length, ?_⟩
          conv => whnf
          refine ⟨⟨0, rfl, rfl, by omega, by omega, fun j hj => by omega⟩, ?_⟩
          rintro k vs h ⟨i, rfl, rfl, hi, rfl, hg⟩
          by_cases hin : i < a.ks.length
          · have hin2 : i < b.ks.length := by omega
            have m1 := cntK_mem (List.getElem_mem hin)
            have m2 := cntK_mem (List.getElem_mem hin2)
            have m3 : deepT a.ks[i].2 ≤ deepK a.ks := by
              have := deepK_take hin
              have h5 : deepK (a.ks.take (i + 1)) ≤ deepK a.ks := by
                have := deepK_append (a.ks.take (i + 1)) (a.ks.drop (i + 1))
                rw [List.take_append_drop] at this
                rw [this]; exact Nat.le_max_left _ _
              rw [this] at h5
              exact Nat.le_trans (Nat.le_max_right _ _) h5
            have r := ih a.ks[i].2 b.ks[i].2 (by omega) (by omega) (by omega)
            have hno : (eqKey a.ks[i].1 b.ks[i].1 && sameT d a.ks[i].2 b.ks[i].2) = false → eqKs (sameT d) a.ks b.ks = false := fun h => all_no hin (by rw [List.getElem?_eq_getElem hin, List.getElem?_eq_getElem hin2]; exact h)
            have hstep : (eqKey a.ks[i].1 b.ks[i].1 && sameT d a.ks[i].2 b.ks[i].2) = true → ∀ j (hj : j < i + 1) (h3 : j < a.ks.length) (h4 : j < b.ks.length), (eqKey a.ks[j].1 b.ks[j].1 && sameT d a.ks[j].2 b.ks[j].2) = true := fun he j hj h3 h4 => by rcases Nat.lt_succ_iff_lt_or_eq.1 hj with h | rfl; exact hg j h h3 h4; exact he
            generalize sameT d a.ks[i].2 b.ks[i].2 = st at *
            by_cases hk : a.ks[i].1.toList = b.ks[i].1.toList
            · have hk2 : eqKey a.ks[i].1 b.ks[i].1 = true := by unfold eqKey; rw [hk]; exact beq_self_eq_true _
              rw [hk2, Bool.true_and] at hno hstep
              cases st
              · rw [hno rfl] at hs
                (try conv=>whnf)<;>repeat'((first|exact sNo|refine sT ?_|refine sF ?_|((first|refine sD ?_ ?_|refine sE ?_ ?_|refine sN ?_ ?_|refine sG ?_ ?_)<;>intro ht<;>(first|(cases ht;done)|skip))|refine wr ?_|refine ix ?_|refine ati ?_|refine row ?_|refine app ?_|refine dr ?_|refine VBs.own ?_|refine cf r ?_|refine cg r ?_|refine cz r ?_|fail)<;>(try conv=>whnf))
                all_goals exact no hs rfl
              · (try conv=>whnf)<;>repeat'((first|exact sNo|refine sT ?_|refine sF ?_|((first|refine sD ?_ ?_|refine sE ?_ ?_|refine sN ?_ ?_|refine sG ?_ ?_)<;>intro ht<;>(first|(cases ht;done)|skip))|refine wr ?_|refine ix ?_|refine ati ?_|refine row ?_|refine app ?_|refine dr ?_|refine VBs.own ?_|refine cf r ?_|refine cg r ?_|refine cz r ?_|fail)<;>(try conv=>whnf))
                all_goals first
                  | exact absurd hk (by assumption)
                  | exact VRd.mk rfl ⟨a.ks.length - (i + 1), by omega, i + 1, rfl, rfl, by omega, rfl, hstep rfl⟩
            · have hk2 : eqKey a.ks[i].1 b.ks[i].1 = false := by unfold eqKey; exact beq_eq_false_iff_ne.2 hk
              rw [hk2, Bool.false_and] at hno
              rw [hno rfl] at hs
              (try conv=>whnf)<;>repeat'((first|exact sNo|refine sT ?_|refine sF ?_|((first|refine sD ?_ ?_|refine sE ?_ ?_|refine sN ?_ ?_|refine sG ?_ ?_)<;>intro ht<;>(first|(cases ht;done)|skip))|refine wr ?_|refine ix ?_|refine ati ?_|refine row ?_|refine app ?_|refine dr ?_|refine VBs.own ?_|refine cf r ?_|refine cg r ?_|refine cz r ?_|fail)<;>(try conv=>whnf))
              all_goals first
                | exact no hs rfl
                | (exfalso; exact hk (by assumption))
          · have hK : eqKs (sameT d) a.ks b.ks = true := all_yes fun j hj => by rw [List.getElem?_eq_getElem hj, List.getElem?_eq_getElem (show j < b.ks.length by omega)]; exact hg j (by omega) hj (by omega)
            rw [hK] at hs
            (try conv=>whnf)<;>repeat'((first|exact sNo|refine sT ?_|refine sF ?_|((first|refine sD ?_ ?_|refine sE ?_ ?_|refine sN ?_ ?_|refine sG ?_ ?_)<;>intro ht<;>(first|(cases ht;done)|skip))|refine wr ?_|refine ix ?_|refine ati ?_|refine row ?_|refine app ?_|refine dr ?_|refine VBs.own ?_|fail)<;>(try conv=>whnf))
            exact congrArg AV.bool hs.symm
      · have hs : sameT (d + 1) a b = false := by rw [sameT, decide_eq_false h2, Bool.and_false, Bool.false_and]
        (try conv=>whnf)<;>repeat'((first|exact sNo|refine sT ?_|refine sF ?_|((first|refine sD ?_ ?_|refine sE ?_ ?_|refine sN ?_ ?_|refine sG ?_ ?_)<;>intro ht<;>(first|(cases ht;done)|skip))|refine wr ?_|refine ix ?_|refine ati ?_|refine row ?_|refine app ?_|refine dr ?_|refine VBs.own ?_|fail)<;>(try conv=>whnf))
        all_goals exact no hs rfl
    · have hs : sameT (d + 1) a b = false := by rw [sameT, decide_eq_false h1]; rfl
      (try conv=>whnf)<;>repeat'((first|exact sNo|refine sT ?_|refine sF ?_|((first|refine sD ?_ ?_|refine sE ?_ ?_|refine sN ?_ ?_|refine sG ?_ ?_)<;>intro ht<;>(first|(cases ht;done)|skip))|refine wr ?_|refine ix ?_|refine ati ?_|refine row ?_|refine app ?_|refine dr ?_|refine VBs.own ?_|fail)<;>(try conv=>whnf))
      all_goals exact no hs rfl
theorem same_p {a b : Tr8} (d : Nat) (hd : deepT a ≤ d) (ha : cntT a ≤ 1000000) (hb : cntT b ≤ 1000000) {t : Bool} (ht : sameT d a b = t) : AFnP Tryz.prog 94 [.agg [lstE entE a.es, lstE kidRow a.ks], .agg [lstE entE b.es, lstE kidRow b.ks]] (.bool t) := by subst ht; exact same_a d a b hd ha hb
def str1 (n : UInt8) : ByteArray := ⟨#[n]⟩
end Go.Proofs.YtlghgdgpbnlpmaaGreat
/- What is proved: what Small and Right of chapter 08's reference answer. Conditions: none. -/
namespace Go.Proofs.YtlghgdgpbnlpmaaGreat
open Go.RowKit
set_option linter.unusedVariables false
set_option linter.unusedSimpArgs false
set_option maxRecDepth 100000
set_option maxHeartbeats 16000000
/-! how much room there is left -/
def roomK (f : Tr8 → Int → Int) (stop : Bool) : List (ByteArray × Tr8) → Int → Int
  | [], l => l
  | x :: r, l => if l < 0 ∨ stop = true then -1 else roomK f stop r (f x.2 l)
def roomT : Nat → Tr8 → Int → Int
  | 0, t, l => roomK (fun _ _ => 0) true t.ks (l - t.es.length - t.ks.length)
  | d + 1, t, l => roomK (roomT d) false t.ks (l - t.es.length - t.ks.length)
mutual
def bndT : Tr8 → Prop
  | .mk es ks => es.length ≤ 1125899906842624 ∧ ks.length ≤ 1125899906842624 ∧ bndK ks
def bndK : List (ByteArray × Tr8) → Prop
  | [] => True
  | x :: r => bndX x ∧ bndK r
def bndX : ByteArray × Tr8 → Prop
  | (_, t) => bndT t
end
theorem bndT_eq (t : Tr8) : bndT t ↔ t.es.length ≤ 1125899906842624 ∧ t.ks.length ≤ 1125899906842624 ∧ bndK t.ks := by cases t; rfl
theorem bndX_eq (x : ByteArray × Tr8) : bndX x ↔ bndT x.2 := by obtain ⟨k, t⟩ := x; rfl
theorem bndK_mem : ∀ {ks : List (ByteArray × Tr8)} {x : ByteArray × Tr8}, bndK ks → x ∈ ks → bndT x.2
  | y :: r, x, h, hx => by
    rw [bndK, bndX_eq] at h
    rcases List.mem_cons.1 hx with rfl | hx
    · exact h.1
    · exact bndK_mem h.2 hx
theorem roomK_le {f : Tr8 → Int → Int} {stop : Bool} : ∀ (ks : List (ByteArray × Tr8)) (l : Int), (∀ x ∈ ks, ∀ l, 0 ≤ l → f x.2 l ≤ l) → roomK f stop ks l ≤ l ∨ roomK f stop ks l = -1
  | [], l, _ => .inl (Int.le_refl _)
  | x :: r, l, h => by
    rw [roomK]
    split
    · exact .inr rfl
    · rename_i hl
      have h1 := h x (List.mem_cons_self ..) l (by omega)
      rcases roomK_le (f := f) (stop := stop) r (f x.2 l) (fun y hy => h y (List.mem_cons_of_mem _ hy)) with h2 | h2
      · exact .inl (by omega)
      · exact .inr h2
theorem roomT_le : ∀ (d : Nat) (t : Tr8) (l : Int), 0 ≤ l → roomT d t l ≤ l
  | 0, t, l, hl => by
    rw [roomT]
    rcases roomK_le (stop := true) (f := fun _ _ => 0) t.ks (l - t.es.length - t.ks.length) (fun x _ l h => h) with h | h <;> omega
  | d + 1, t, l, hl => by
    rw [roomT]
    rcases roomK_le (stop := false) (f := roomT d) t.ks (l - t.es.length - t.ks.length) (fun x _ l h => roomT_le d x.2 l h) with h | h <;> omega
theorem roomK_low {f : Tr8 → Int → Int} {stop : Bool} {B : Int} (hB : B ≤ -1) : ∀ (ks : List (ByteArray × Tr8)) (l : Int), (∀ x ∈ ks, ∀ l, 0 ≤ l → B ≤ f x.2 l) → B ≤ l → B ≤ roomK f stop ks l
  | [], l, _, hl => hl
  | x :: r, l, h, hl => by
    rw [roomK]
    split
    · exact hB
    · rename_i h0
      exact roomK_low hB r _ (fun y hy => h y (List.mem_cons_of_mem _ hy)) (h x (List.mem_cons_self ..) l (by omega))
theorem roomT_low : ∀ (d : Nat) (t : Tr8) (l : Int), bndT t → 0 ≤ l → -2251799813685248 ≤ roomT d t l
  | 0, t, l, hb, hl => by
    have h := (bndT_eq t).1 hb
    rw [roomT]
    exact roomK_low (by omega) _ _ (fun x _ l _ => by omega) (by omega)
  | d + 1, t, l, hb, hl => by
    have h := (bndT_eq t).1 hb
    rw [roomT]
    exact roomK_low (by omega) _ _ (fun x hx l hl => roomT_low d x.2 l (bndK_mem h.2.2 hx) hl) (by omega)
theorem roomK_cnt {f : Tr8 → Int → Int} {stop : Bool} : ∀ (ks : List (ByteArray × Tr8)) (l : Int), (∀ x ∈ ks, ∀ l, 0 ≤ l → 0 ≤ f x.2 l → f x.2 l = l - cntT x.2) → 0 ≤ roomK f stop ks l → roomK f stop ks l = l - cntK ks
  | [], l, _, _ => by simp [roomK, cntK]
  | x :: r, l, h, h0 => by
    rw [roomK] at h0 ⊢
    split at h0
    · omega
    · rename_i hl
      rw [if_neg hl]
      have ih := roomK_cnt r (f x.2 l) (fun y hy => h y (List.mem_cons_of_mem _ hy)) h0
      rw [ih]
      rw [ih] at h0
      have h1 := h x (List.mem_cons_self ..) l (by omega) (by omega)
      rw [cntK, cntX_eq]
      omega
theorem roomT_cnt : ∀ (d : Nat) (t : Tr8) (l : Int), 0 ≤ l → 0 ≤ roomT d t l → roomT d t l = l - cntT t
  | 0, t, l, hl, h0 => by
    rw [roomT] at h0 ⊢
    cases hk : t.ks with
    | nil => rw [cntT_eq, hk]; first | (simp [roomK, cntK]; done) | (simp [roomK, cntK]; omega)
    | cons x r => rw [hk] at h0; simp [roomK] at h0
  | d + 1, t, l, hl, h0 => by
    rw [roomT] at h0 ⊢
    rw [roomK_cnt t.ks _ (fun x _ l h1 h2 => roomT_cnt d x.2 l h1 h2) h0, cntT_eq]
    omega
theorem room_a : ∀ (d : Nat) (t : Tr8) (l : Int), d ≤ 100 → bndT t → 0 ≤ l → l ≤ 1000000 → AFnP Tryz.prog 106 [.agg [lstE entE t.es, lstE kidRow t.ks], i64 l, i64 (d : Int)] (i64 (roomT d t l)) := by
  intro d
  induction d with
  | zero =>
    intro t l hd hb h0 h1
    have hbb := (bndT_eq t).1 hb
    rw [kidRow_fun, roomT]
    refine afnp_in ty_ok Tryz.call106 Tryz.func106 rfl rfl (by decide +kernel) ?_
    cases hk : t.ks with
    | nil =>
      rw [hk] at hbb
      have hl : ([] : List (ByteArray × Tr8)).length = 0 := rfl
      (try conv=>whnf)<;>repeat'((first|exact sNo|refine sT ?_|refine sF ?_|((first|refine sD ?_ ?_|refine sE ?_ ?_|refine sN ?_ ?_|refine sG ?_ ?_)<;>intro ht<;>(first|(cases ht;done)|skip))|refine wr ?_|refine ix ?_|refine ati ?_|refine row ?_|refine app ?_|refine dr ?_|refine VBs.own ?_|fail)<;>(try conv=>whnf))
      refine VLp.mk ⟨[], [], [1, 20], fun k vs h => vs = [i64 (l - t.es.length - 0), i64 0] ∧ h = [] ∧ k = 0, 0, ?_⟩
      conv => whnf
      refine ⟨⟨rfl, rfl, rfl⟩, ?_⟩
      rintro k vs h ⟨rfl, rfl, rfl⟩
      (try conv=>whnf)<;>repeat'((first|exact sNo|refine sT ?_|refine sF ?_|((first|refine sD ?_ ?_|refine sE ?_ ?_|refine sN ?_ ?_|refine sG ?_ ?_)<;>intro ht<;>(first|(cases ht;done)|skip))|refine wr ?_|refine ix ?_|refine ati ?_|refine row ?_|refine app ?_|refine dr ?_|refine VBs.own ?_|fail)<;>(try conv=>whnf))
      all_goals (simp [roomK, i64])
    | cons x r =>
      rw [hk] at hbb
      have hl : (x :: r).length = r.length + 1 := rfl
      have hb2 := hbb.2.1
      rw [hl] at hb2
      (try conv=>whnf)<;>repeat'((first|exact sNo|refine sT ?_|refine sF ?_|((first|refine sD ?_ ?_|refine sE ?_ ?_|refine sN ?_ ?_|refine sG ?_ ?_)<;>intro ht<;>(first|(cases ht;done)|skip))|refine wr ?_|refine ix ?_|refine ati ?_|refine row ?_|refine app ?_|refine dr ?_|refine VBs.own ?_|fail)<;>(try conv=>whnf))
      refine VLp.mk ⟨[], [3], [1, 20], fun k vs h => vs = [i64 (l - t.es.length - (x :: r).length), i64 0] ∧ h = [.blk 0 [lstE entE t.es, lstE kidE (x :: r)] 37] ∧ k = 0, 0, ?_⟩
      conv => whnf
      refine ⟨⟨rfl, rfl, rfl⟩, ?_⟩
      rintro k vs h ⟨rfl, rfl, rfl⟩
      (try conv=>whnf)<;>repeat'((first|exact sNo|refine sT ?_|refine sF ?_|((first|refine sD ?_ ?_|refine sE ?_ ?_|refine sN ?_ ?_|refine sG ?_ ?_)<;>intro ht<;>(first|(cases ht;done)|skip))|refine wr ?_|refine ix ?_|refine ati ?_|refine row ?_|refine app ?_|refine dr ?_|refine VBs.own ?_|fail)<;>(try conv=>whnf))
      all_goals simp [roomK]
  | succ d ih =>
    intro t l hd hb h0 h1
    have hbb := (bndT_eq t).1 hb
    obtain ⟨D, hD⟩ : ∃ D : Int, D = ((d + 1 : Nat) : Int) := ⟨_, rfl⟩
    rw [← hD, kidRow_fun, roomT]
    refine afnp_in ty_ok Tryz.call106 Tryz.func106 rfl rfl (by decide +kernel) ?_
    generalize hR : roomK (roomT d) false t.ks (l - t.es.length - t.ks.length) = R
    (try conv=>whnf)<;>repeat'((first|exact sNo|refine sT ?_|refine sF ?_|((first|refine sD ?_ ?_|refine sE ?_ ?_|refine sN ?_ ?_|refine sG ?_ ?_)<;>intro ht<;>(first|(cases ht;done)|skip))|refine wr ?_|refine ix ?_|refine ati ?_|refine row ?_|refine app ?_|refine dr ?_|refine VBs.own ?_|fail)<;>(try conv=>whnf))
    refine VLp.mk ⟨[], [3], [1, 20], fun k vs h => ∃ (i : Nat) (m : Int), vs = [i64 m, i64 i] ∧ h = [.blk 0 [lstE entE t.es, lstE kidE t.ks] 37] ∧ i ≤ t.ks.length ∧ k = t.ks.length - i ∧ roomK (roomT d) false (t.ks.drop i) m = R ∧ m ≤ 1000000 ∧ -9007199254740992 ≤ m, t.ks.length, ?_⟩
    conv => whnf
    refine ⟨⟨0, l - t.es.length - t.ks.length, rfl, rfl, by omega, by omega, hR, by omega, by omega⟩, ?_⟩
    rintro k vs h ⟨i, m, rfl, rfl, hi, rfl, hr, hm1, hm2⟩
    by_cases hin : i < t.ks.length
    · rw [List.drop_eq_getElem_cons hin, roomK] at hr
      by_cases hm : m < 0
      · rw [if_pos (.inl hm)] at hr
        subst hr
        (try conv=>whnf)<;>repeat'((first|exact sNo|refine sT ?_|refine sF ?_|((first|refine sD ?_ ?_|refine sE ?_ ?_|refine sN ?_ ?_|refine sG ?_ ?_)<;>intro ht<;>(first|(cases ht;done)|skip))|refine wr ?_|refine ix ?_|refine ati ?_|refine row ?_|refine app ?_|refine dr ?_|refine VBs.own ?_|fail)<;>(try conv=>whnf))
      · rw [if_neg (by simp; omega)] at hr
        have hbx := bndK_mem hbb.2.2 (List.getElem_mem hin)
        have r := ih t.ks[i].2 m (by omega) hbx (by omega) hm1
        rw [show (d : Int) = D - 1 by omega] at r
        have b1 := roomT_le d t.ks[i].2 m (by omega)
        have b2 := roomT_low d t.ks[i].2 m hbx (by omega)
        generalize roomT d t.ks[i].2 m = m' at *
        (try conv=>whnf)<;>repeat'((first|exact sNo|refine sT ?_|refine sF ?_|((first|refine sD ?_ ?_|refine sE ?_ ?_|refine sN ?_ ?_|refine sG ?_ ?_)<;>intro ht<;>(first|(cases ht;done)|skip))|refine wr ?_|refine ix ?_|refine ati ?_|refine row ?_|refine app ?_|refine dr ?_|refine VBs.own ?_|refine cf r ?_|refine cg r ?_|refine cz r ?_|fail)<;>(try conv=>whnf))
        all_goals exact VRd.mk rfl ⟨t.ks.length - (i + 1), by omega, i + 1, m', rfl, rfl, by omega, rfl, hr, by omega, by omega⟩
    · obtain rfl : i = t.ks.length := by omega
      rw [List.drop_length, roomK] at hr
      subst hr
      (try conv=>whnf)<;>repeat'((first|exact sNo|refine sT ?_|refine sF ?_|((first|refine sD ?_ ?_|refine sE ?_ ?_|refine sN ?_ ?_|refine sG ?_ ?_)<;>intro ht<;>(first|(cases ht;done)|skip))|refine wr ?_|refine ix ?_|refine ati ?_|refine row ?_|refine app ?_|refine dr ?_|refine VBs.own ?_|fail)<;>(try conv=>whnf))
theorem small_a (t : Tr8) (l : Int) (hb : bndT t) (h0 : 0 ≤ l) (h1 : l ≤ 1000000) : AFnP Tryz.prog 82 [.agg [lstE entE t.es, lstE kidRow t.ks], i64 l] (.bool (decide (0 ≤ roomT 8 t l))) := by
  refine afnp_in ty_ok Tryz.call82 Tryz.func82 rfl rfl (by decide +kernel) ?_
  have r : AFnP Tryz.prog 106 [.agg [lstE entE t.es, lstE kidRow t.ks], i64 l, i64 8] (i64 (roomT 8 t l)) := room_a 8 t l (by omega) hb h0 h1
  generalize roomT 8 t l = m at *
  (try conv=>whnf)<;>repeat'((first|exact sNo|refine sT ?_|refine sF ?_|((first|refine sD ?_ ?_|refine sE ?_ ?_|refine sN ?_ ?_|refine sG ?_ ?_)<;>intro ht<;>(first|(cases ht;done)|skip))|refine wr ?_|refine ix ?_|refine ati ?_|refine row ?_|refine app ?_|refine dr ?_|refine VBs.own ?_|refine cf r ?_|refine cg r ?_|refine cz r ?_|fail)<;>(try conv=>whnf))
  all_goals simp [*]
theorem small_cnt {t : Tr8} {l : Int} (h0 : 0 ≤ l) (h : decide (0 ≤ roomT 8 t l) = true) : (cntT t : Int) ≤ l := by
  have h := of_decide_eq_true h
  have := roomT_cnt 8 t l h0 h
  omega
theorem small_p (t : Tr8) (l : Int) (hb : bndT t) (h0 : 0 ≤ l) (h1 : l ≤ 1000000) {b : Bool} (h : decide (0 ≤ roomT 8 t l) = b) : AFnP Tryz.prog 82 [.agg [lstE entE t.es, lstE kidRow t.ks], i64 l] (.bool b) := by subst h; exact small_a t l hb h0 h1
end Go.Proofs.YtlghgdgpbnlpmaaGreat
