/- What is proved: what Get of chapter 08's reference answers, and chapter 08's law function TreeGets. Conditions: none. -/
import Derived.Test.YtailblpjmgabjaaUd
import Derived.Test.YtailblpjmgabjaaTo
namespace Go.Proofs.Ytailblpjmgabjaa
open Go.RowKit
set_option linter.unusedVariables false
set_option linter.unusedSimpArgs false
set_option maxRecDepth 100000
set_option maxHeartbeats 16000000
def nilT : Tr8 := .mk [] []
def undP (l : List Leaf8) (path : List ByteArray) : List Leaf8 := path.foldl (fun l k => undL k l) l
theorem undP_take {l : List Leaf8} {path : List ByteArray} {i : Nat} (h : i < path.length) : undP l (path.take (i + 1)) = undL path[i] (undP l (path.take i)) := by
  unfold undP
  rw [List.take_succ_eq_append_getElem h, List.foldl_append]
  rfl
theorem nilT_right : rightT 5 nilT = true := by decide
theorem lvT_nilT : LvT [] nilT := fun x => by simp [nilT, belowT, belowK]
theorem und_step (c : Tr8) (l : List Leaf8) (k : ByteArray) (hr : rightT 5 c = true) (hl : LvT l c) : rightT 5 ((stepT c k).getD nilT) = true ∧ LvT (undL k l) ((stepT c k).getD nilT) := by
  unfold stepT
  cases hf : c.ks.findIdx? (fun x => eqKey x.1 k) with
  | none =>
    refine ⟨nilT_right, ?_⟩
    rw [lvT_no hl fun y hy he => ?_]
    · exact lvT_nilT
    · have := List.findIdx?_eq_none_iff.1 hf y hy
      rw [he] at this
      simp [eqKey] at this
  | some m =>
    obtain ⟨hm, hk, _⟩ := List.findIdx?_eq_some_iff_getElem.1 hf
    have hk : c.ks[m].1 = k := bytes_eq (by simpa [eqKey] using hk)
    show rightT 5 ((Option.map (fun x => x.2) c.ks[m]?).getD nilT) = true ∧ LvT (undL k l) ((Option.map (fun x => x.2) c.ks[m]?).getD nilT)
    rw [List.getElem?_eq_getElem hm]
    refine ⟨?_, ?_⟩
    · have h4 := rightT_child hr hm
      exact rightT_of_deep 4 5 _ h4 (Nat.le_trans (deepT_le 4 _ h4) (by decide))
    · rw [← hk]
      exact lvT_und hr hl hm
theorem undP_spec : ∀ (path : List ByteArray) (o : Option Tr8) (l : List Leaf8), rightT 5 (o.getD nilT) = true → LvT l (o.getD nilT) →
    rightT 5 ((path.foldl (fun o p => o.bind fun c => stepT c p) o).getD nilT) = true ∧ LvT (undP l path) ((path.foldl (fun o p => o.bind fun c => stepT c p) o).getD nilT)
  | [], o, l, h1, h2 => ⟨h1, h2⟩
  | p :: ps, o, l, h1, h2 => by
    rw [List.foldl_cons, undP, List.foldl_cons]
    refine undP_spec ps _ _ ?_ ?_
    · cases o with
      | none => exact nilT_right
      | some c => exact (und_step c l p h1 h2).1
    · cases o with
      | none =>
        rw [lvT_no h2 (fun y hy => by simp [nilT, Tr8.ks] at hy)]
        exact lvT_nilT
      | some c => exact (und_step c l p h1 h2).2
theorem undP_len (l : List Leaf8) : ∀ path : List ByteArray, (undP l path).length ≤ l.length := fun path => by
  unfold undP
  induction path generalizing l with
  | nil => exact Nat.le_refl _
  | cons p ps ih => exact Nat.le_trans (ih _) (undL_len _ _)
theorem undP_path {l : List Leaf8} (hp : ∀ x ∈ l, x.1.length ≤ 1000000) : ∀ path : List ByteArray, ∀ x ∈ undP l path, x.1.length ≤ 1000000 := fun path => by
  unfold undP
  induction path generalizing l with
  | nil => exact hp
  | cons p ps ih => exact ih (undL_path hp)
theorem below_path : ∀ (d : Nat) (t : Tr8), rightT d t = true → ∀ x ∈ belowT t [], x.1.length < d
  | 0, t, h => by cases h
  | d + 1, t, h => fun x hx => by
    rcases mem_below.1 hx with ⟨h1, _⟩ | ⟨y, hy, ps, h1, h2⟩
    · rw [h1]; exact Nat.succ_pos _
    · obtain ⟨i, hi, rfl⟩ := List.getElem_of_mem hy
      have := below_path d _ (rightT_child h hi) _ h2
      rw [h1, List.length_cons]
      simp only at this
      omega
theorem cnt_step {c : Tr8} {k : ByteArray} : cntT ((stepT c k).getD nilT) ≤ cntT c := by
  unfold stepT
  cases hf : c.ks.findIdx? (fun x => eqKey x.1 k) with
  | none => exact Nat.zero_le _
  | some m =>
    obtain ⟨hm, _, _⟩ := List.findIdx?_eq_some_iff_getElem.1 hf
    show cntT ((Option.map (fun x => x.2) c.ks[m]?).getD nilT) ≤ _
    rw [List.getElem?_eq_getElem hm, cntT_eq c]
    have := cntK_mem (List.getElem_mem hm)
    simp only [Option.map_some, Option.getD_some]
    omega
theorem cnt_getT : ∀ (path : List ByteArray) (o : Option Tr8), cntT ((path.foldl (fun o p => o.bind fun c => stepT c p) o).getD nilT) ≤ cntT (o.getD nilT)
  | [], o => Nat.le_refl _
  | p :: ps, o => by
    rw [List.foldl_cons]
    refine Nat.le_trans (cnt_getT ps _) ?_
    cases o with
    | none => exact Nat.le_refl _
    | some c => exact cnt_step
theorem rget_a (t : Tr8) (path : List ByteArray) (hr : rightT 5 t = true) (hc : cntT t ≤ 1000000) (hn : path.length ≤ 1000000) : AFnP Try.prog 18 [.agg [lstE entE t.es, lstE kidRow t.ks], lstE strE path] (.agg [lstE entE ((getT t path).getD nilT).es, lstE kidRow ((getT t path).getD nilT).ks]) := by
  have r1 := leaves_a 5 t (by omega) hr hc
  obtain ⟨h1, h2⟩ := undP_spec path (some t) (belowT t []) hr (fun x => Iff.rfl)
  have h3 := cnt_getT path (some t)
  have l1 := belowT_len t []
  have l2 := allT_len t
  have hp : ∀ x ∈ belowT t [], x.1.length ≤ 1000000 := fun x hx => by have := below_path 5 t hr x hx; omega
  have r2 := build_a 5 _ _ h1 h2 (Nat.le_trans (undP_len _ _) (by omega)) (Nat.le_trans h3 hc) (undP_path hp path)
  unfold getT
  generalize (path.foldl (fun o p => o.bind fun c => stepT c p) (some t)).getD nilT = c at *
  refine afnp_in ty_ok Try.call18 Try.func18 rfl rfl (by decide +kernel) ?_
  rw [kidRow_fun] at r1 r2 ⊢
  generalize belowT t [] = l at *
  (try conv=>whnf)<;>repeat'((first|exact sNo|refine sT ?_|refine sF ?_|((first|refine sD ?_ ?_|refine sE ?_ ?_|refine sN ?_ ?_|refine sG ?_ ?_)<;>intro ht<;>(first|(cases ht;done)|skip))|refine wr ?_|refine ix ?_|refine ati ?_|refine row ?_|refine app ?_|refine dr ?_|refine VAnd.mk ?_ ?_|exact VJe.mk rfl ⟨rfl,rfl⟩|refine .inl (slM ?_)|refine .inl (slO ?_)|refine slM ?_|refine slO ?_|refine slN ?_|refine slS ?_|refine swB (swM fun C hC=>?_)|refine sj ?_|refine .inl (sv ?_)|refine sv ?_|refine cl ?_|refine s3 ?_|refine az ?_|refine cf r1 ?_|refine cg r1 ?_|refine cz r1 ?_|fail)<;>(try conv=>whnf))
  refine VLp.mk ⟨[], [4], [5, 11], fun k vs h => ∃ i : Nat, vs = [lstE leafE (undP l (path.take i)), i64 i] ∧ h = [.blk 0 [.nils, .nils] 25] ∧ i ≤ path.length ∧ k = path.length - i, path.length, ?_⟩
  conv => whnf
  refine ⟨⟨0, rfl, rfl, by omega, by omega⟩, ?_⟩
  rintro k vs h ⟨i, rfl, rfl, hi, rfl⟩
  have b1 := undP_len l (path.take i)
  have b2 := undP_path hp (path.take i)
  by_cases hin : i < path.length
  · have e := undP_take (l := l) hin
    generalize undP l (path.take i) = A at *
    have r3 := under_a A path[i] (by omega) b2
    (try conv=>whnf)<;>repeat'((first|exact sNo|refine sT ?_|refine sF ?_|((first|refine sD ?_ ?_|refine sE ?_ ?_|refine sN ?_ ?_|refine sG ?_ ?_)<;>intro ht<;>(first|(cases ht;done)|skip))|refine wr ?_|refine ix ?_|refine ati ?_|refine row ?_|refine app ?_|refine dr ?_|refine VAnd.mk ?_ ?_|exact VJe.mk rfl ⟨rfl,rfl⟩|refine .inl (slM ?_)|refine .inl (slO ?_)|refine slM ?_|refine slO ?_|refine slN ?_|refine slS ?_|refine swB (swM fun C hC=>?_)|refine sj ?_|refine .inl (sv ?_)|refine sv ?_|refine cl ?_|refine s3 ?_|refine az ?_|refine cf r3 ?_|refine cg r3 ?_|refine cz r3 ?_|fail)<;>(try conv=>whnf))
    all_goals exact VRd.mk rfl ⟨path.length - (i + 1), by omega, i + 1, by rw [e]; rfl, rfl, by omega, rfl⟩
  · obtain rfl : i = path.length := by omega
    rw [List.take_length]
    generalize undP l path = A at *
    (try conv=>whnf)<;>repeat'((first|exact sNo|refine sT ?_|refine sF ?_|((first|refine sD ?_ ?_|refine sE ?_ ?_|refine sN ?_ ?_|refine sG ?_ ?_)<;>intro ht<;>(first|(cases ht;done)|skip))|refine wr ?_|refine ix ?_|refine ati ?_|refine row ?_|refine app ?_|refine dr ?_|refine VAnd.mk ?_ ?_|exact VJe.mk rfl ⟨rfl,rfl⟩|refine .inl (slM ?_)|refine .inl (slO ?_)|refine slM ?_|refine slO ?_|refine slN ?_|refine slS ?_|refine swB (swM fun C hC=>?_)|refine sj ?_|refine .inl (sv ?_)|refine sv ?_|refine cl ?_|refine s3 ?_|refine az ?_|refine cf r2 ?_|refine cg r2 ?_|refine cz r2 ?_|fail)<;>(try conv=>whnf))
    all_goals rfl
theorem nilT_of_empty {t : Tr8} (h : t = nilT) : [lstE entE t.es, lstE kidRow t.ks] = [.lst 0 [], .lst 0 []] := by subst h; rfl
theorem lawGets_a (t : Tr8) (ht : bndT t) (path : List ByteArray) : AFnP Try.prog 3 [.agg [lstE entE t.es, lstE kidRow t.ks], lstE strE path] (.bool true) := by
  refine afnp_in ty_ok Try.call3 Try.func3 rfl rfl (by decide +kernel) ?_
  cases h1 : decide (0 ≤ roomT 8 t 60)
  · have s1 := small_p t 60 ht (by omega) (by omega) h1
    (try conv=>whnf)<;>repeat'((first|exact sNo|refine sT ?_|refine sF ?_|((first|refine sD ?_ ?_|refine sE ?_ ?_|refine sN ?_ ?_|refine sG ?_ ?_)<;>intro ht<;>(first|(cases ht;done)|skip))|refine wr ?_|refine ix ?_|refine ati ?_|refine row ?_|refine app ?_|refine dr ?_|refine VAnd.mk ?_ ?_|exact VJe.mk rfl ⟨rfl,rfl⟩|refine .inl (slM ?_)|refine .inl (slO ?_)|refine slM ?_|refine slO ?_|refine slN ?_|refine slS ?_|refine swB (swM fun C hC=>?_)|refine sj ?_|refine .inl (sv ?_)|refine sv ?_|refine cl ?_|refine s3 ?_|refine az ?_|refine cf awake_a ?_|refine cg awake_a ?_|refine cz awake_a ?_|refine cf s1 ?_|refine cg s1 ?_|refine cz s1 ?_|fail)<;>(try conv=>whnf))
  · have s1 := small_p t 60 ht (by omega) (by omega) h1
    have c1 := small_cnt (by omega) h1
    cases h2 : decide (path.length ≤ 20)
    · have s2 := few_p h2
      (try conv=>whnf)<;>repeat'((first|exact sNo|refine sT ?_|refine sF ?_|((first|refine sD ?_ ?_|refine sE ?_ ?_|refine sN ?_ ?_|refine sG ?_ ?_)<;>intro ht<;>(first|(cases ht;done)|skip))|refine wr ?_|refine ix ?_|refine ati ?_|refine row ?_|refine app ?_|refine dr ?_|refine VAnd.mk ?_ ?_|exact VJe.mk rfl ⟨rfl,rfl⟩|refine .inl (slM ?_)|refine .inl (slO ?_)|refine slM ?_|refine slO ?_|refine slN ?_|refine slS ?_|refine swB (swM fun C hC=>?_)|refine sj ?_|refine .inl (sv ?_)|refine sv ?_|refine cl ?_|refine s3 ?_|refine az ?_|refine cf awake_a ?_|refine cg awake_a ?_|refine cz awake_a ?_|refine cf s1 ?_|refine cg s1 ?_|refine cz s1 ?_|refine cf s2 ?_|refine cg s2 ?_|refine cz s2 ?_|fail)<;>(try conv=>whnf))
    · have s2 := few_p h2
      have hn := of_decide_eq_true h2
      have r1 := rtright_a t (by omega)
      cases hr : rightT 5 t
      · have r2 := get_f t path hr (by omega)
        rw [hr] at r1
        (try conv=>whnf)<;>repeat'((first|exact sNo|refine sT ?_|refine sF ?_|((first|refine sD ?_ ?_|refine sE ?_ ?_|refine sN ?_ ?_|refine sG ?_ ?_)<;>intro ht<;>(first|(cases ht;done)|skip))|refine wr ?_|refine ix ?_|refine ati ?_|refine row ?_|refine app ?_|refine dr ?_|refine VAnd.mk ?_ ?_|exact VJe.mk rfl ⟨rfl,rfl⟩|refine .inl (slM ?_)|refine .inl (slO ?_)|refine slM ?_|refine slO ?_|refine slN ?_|refine slS ?_|refine swB (swM fun C hC=>?_)|refine sj ?_|refine .inl (sv ?_)|refine sv ?_|refine cl ?_|refine s3 ?_|refine az ?_|refine cf awake_a ?_|refine cg awake_a ?_|refine cz awake_a ?_|refine cf s1 ?_|refine cg s1 ?_|refine cz s1 ?_|refine cf s2 ?_|refine cg s2 ?_|refine cz s2 ?_|refine cf r1 ?_|refine cg r1 ?_|refine cz r1 ?_|refine cf r2 ?_|refine cg r2 ?_|refine cz r2 ?_|refine cf emptyE_a ?_|refine cg emptyE_a ?_|refine cz emptyE_a ?_|fail)<;>(try conv=>whnf))
      · have r2 := get_t t path hr (by omega) (by omega)
        have r3 := rget_a t path hr (by omega) (by omega)
        obtain ⟨h3, _⟩ := undP_spec path (some t) (belowT t []) hr (fun x => Iff.rfl)
        have h4 := cnt_getT path (some t)
        rw [hr] at r1
        have e : getTE (getT t path) = .agg [lstE entE ((getT t path).getD nilT).es, lstE kidRow ((getT t path).getD nilT).ks] := by
          cases getT t path <;> rfl
        rw [e] at r2
        have h3 : rightT 5 ((getT t path).getD nilT) = true := h3
        have h4 : cntT ((getT t path).getD nilT) ≤ cntT t := h4
        generalize (getT t path).getD nilT = c at *
        have r4 := same_p 5 (deepT_le 5 c h3) (by omega) (by omega) (sameT_refl 5 c (deepT_le 5 c h3))
        (try conv=>whnf)<;>repeat'((first|(refine pr ?_;(try conv=>whnf);(fail_if_success (show False)))|exact sNo|refine sT ?_|refine sF ?_|((first|refine sD ?_ ?_|refine sE ?_ ?_|refine sN ?_ ?_|refine sG ?_ ?_)<;>intro ht<;>(first|(cases ht;done)|skip))|refine wr ?_|refine ix ?_|refine ati ?_|refine row ?_|refine app ?_|refine dr ?_|refine VAnd.mk ?_ ?_|exact VJe.mk rfl ⟨rfl,rfl⟩|refine .inl (slM ?_)|refine .inl (slO ?_)|refine slM ?_|refine slO ?_|refine slN ?_|refine slS ?_|refine swB (swM fun C hC=>?_)|refine sj ?_|refine .inl (sv ?_)|refine sv ?_|refine cl ?_|refine s3 ?_|refine az ?_|refine cp awake_a ?_|refine cf awake_a ?_|refine cg awake_a ?_|refine cz awake_a ?_|refine cp s1 ?_|refine cf s1 ?_|refine cg s1 ?_|refine cz s1 ?_|refine cp s2 ?_|refine cf s2 ?_|refine cg s2 ?_|refine cz s2 ?_|refine cp r1 ?_|refine cf r1 ?_|refine cg r1 ?_|refine cz r1 ?_|refine cp r2 ?_|refine cf r2 ?_|refine cg r2 ?_|refine cz r2 ?_|refine cp r3 ?_|refine cf r3 ?_|refine cg r3 ?_|refine cz r3 ?_|refine cp r4 ?_|refine cf r4 ?_|refine cg r4 ?_|refine cz r4 ?_|fail)<;>(try conv=>whnf))
end Go.Proofs.Ytailblpjmgabjaa
