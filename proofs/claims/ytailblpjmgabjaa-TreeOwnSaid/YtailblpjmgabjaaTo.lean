/- What is proved: what Wrap of package tree answers in its other cases; the plain law of wrapped trees. Conditions: none. -/
import Derived.Test.YtailblpjmgabjaaTm
import Derived.Test.YtailblpjmgabjaaTl
namespace Go.Proofs.Ytailblpjmgabjaa
open Go.RowKit
set_option linter.unusedVariables false
set_option linter.unusedSimpArgs false
set_option maxRecDepth 100000
set_option maxHeartbeats 16000000
theorem emptyE_a : AFnP Try.prog 16 [.agg [.lst 0 [], .lst 0 []]] (.bool true) := empty_a (.mk [] [])
def wrapBadE (e : Int) : AV := .tup [.agg [.lst 0 [], .lst 0 []], i64 e]
theorem wrap_r (t : Tr8) (path : List ByteArray) (hr : rightT 5 t = false) (hc : cntT t ≤ 1000000) : AFnP Try.prog 19 [.agg [lstE entE t.es, lstE kidRow t.ks], lstE strE path] (wrapBadE 1) := by
  have r1 := tright_a t hc
  rw [hr] at r1
  refine afnp_in ty_ok Try.call19 Try.func19 rfl rfl (by decide +kernel) ?_
  (try conv=>whnf)<;>repeat'((first|exact sNo|refine sT ?_|refine sF ?_|((first|refine sD ?_ ?_|refine sE ?_ ?_|refine sN ?_ ?_|refine sG ?_ ?_)<;>intro ht<;>(first|(cases ht;done)|skip))|refine wr ?_|refine ix ?_|refine ati ?_|refine row ?_|refine app ?_|refine dr ?_|refine VAnd.mk ?_ ?_|exact VJe.mk rfl ⟨rfl,rfl⟩|refine .inl (slM ?_)|refine .inl (slO ?_)|refine slM ?_|refine slO ?_|refine slN ?_|refine slS ?_|refine swB (swM fun C hC=>?_)|refine sj ?_|refine .inl (sv ?_)|refine sv ?_|refine cl ?_|refine s3 ?_|refine az ?_|refine rm ?_|refine VBs.own ?_|refine cf r1 ?_|refine cg r1 ?_|refine cz r1 ?_|fail)<;>(try conv=>whnf))
  all_goals rfl
theorem wrap_k (t : Tr8) (path : List ByteArray) (hr : rightT 5 t = true) (hc : cntT t ≤ 1000000) (hn : path.length ≤ 1000000) (hk : path.any (fun k => !okKey k) = true) : AFnP Try.prog 19 [.agg [lstE entE t.es, lstE kidRow t.ks], lstE strE path] (wrapBadE 1) := by
  have r1 := tright_a t hc
  have r2 := containsStr_a path hn (g := 43) (fun k => !okKey k) (fun k => wrap1_a k)
  rw [hr] at r1
  rw [hk] at r2
  refine afnp_in ty_ok Try.call19 Try.func19 rfl rfl (by decide +kernel) ?_
  (try conv=>whnf)<;>repeat'((first|exact sNo|refine sT ?_|refine sF ?_|((first|refine sD ?_ ?_|refine sE ?_ ?_|refine sN ?_ ?_|refine sG ?_ ?_)<;>intro ht<;>(first|(cases ht;done)|skip))|refine wr ?_|refine ix ?_|refine ati ?_|refine row ?_|refine app ?_|refine dr ?_|refine VAnd.mk ?_ ?_|exact VJe.mk rfl ⟨rfl,rfl⟩|refine .inl (slM ?_)|refine .inl (slO ?_)|refine slM ?_|refine slO ?_|refine slN ?_|refine slS ?_|refine swB (swM fun C hC=>?_)|refine sj ?_|refine .inl (sv ?_)|refine sv ?_|refine cl ?_|refine s3 ?_|refine az ?_|refine rm ?_|refine VBs.own ?_|refine cf r1 ?_|refine cg r1 ?_|refine cz r1 ?_|refine cf r2 ?_|refine cg r2 ?_|refine cz r2 ?_|fail)<;>(try conv=>whnf))
  all_goals rfl
theorem wrap_d (t : Tr8) (path : List ByteArray) (hr : rightT 5 t = true) (hc : cntT t ≤ 1000000) (hn : path.length ≤ 1000000) (hk : path.any (fun k => !okKey k) = false) (hd : 5 < path.length ∨ (emptyT t = false ∧ 5 < deepT t + path.length)) : AFnP Try.prog 19 [.agg [lstE entE t.es, lstE kidRow t.ks], lstE strE path] (wrapBadE 10) := by
  have r1 := tright_a t hc
  have r2 := containsStr_a path hn (g := 43) (fun k => !okKey k) (fun k => wrap1_a k)
  have r3 := empty_a t
  have r4 := deep_a 5 t (by omega) hr hc
  have hd5 := deepT_le 5 t hr
  rw [hr] at r1
  rw [hk] at r2
  refine afnp_in ty_ok Try.call19 Try.func19 rfl rfl (by decide +kernel) ?_
  by_cases h5 : 5 < path.length
  · (try conv=>whnf)<;>repeat'((first|exact sNo|refine sT ?_|refine sF ?_|((first|refine sD ?_ ?_|refine sE ?_ ?_|refine sN ?_ ?_|refine sG ?_ ?_)<;>intro ht<;>(first|(cases ht;done)|skip))|refine wr ?_|refine ix ?_|refine ati ?_|refine row ?_|refine app ?_|refine dr ?_|refine VAnd.mk ?_ ?_|exact VJe.mk rfl ⟨rfl,rfl⟩|refine .inl (slM ?_)|refine .inl (slO ?_)|refine slM ?_|refine slO ?_|refine slN ?_|refine slS ?_|refine swB (swM fun C hC=>?_)|refine sj ?_|refine .inl (sv ?_)|refine sv ?_|refine cl ?_|refine s3 ?_|refine az ?_|refine rm ?_|refine VBs.own ?_|refine cf r1 ?_|refine cg r1 ?_|refine cz r1 ?_|refine cf r2 ?_|refine cg r2 ?_|refine cz r2 ?_|fail)<;>(try conv=>whnf))
    all_goals rfl
  · obtain ⟨he, hd⟩ : emptyT t = false ∧ 5 < deepT t + path.length := by rcases hd with h | h; exact absurd h h5; exact h
    rw [he] at r3
    (try conv=>whnf)<;>repeat'((first|exact sNo|refine sT ?_|refine sF ?_|((first|refine sD ?_ ?_|refine sE ?_ ?_|refine sN ?_ ?_|refine sG ?_ ?_)<;>intro ht<;>(first|(cases ht;done)|skip))|refine wr ?_|refine ix ?_|refine ati ?_|refine row ?_|refine app ?_|refine dr ?_|refine VAnd.mk ?_ ?_|exact VJe.mk rfl ⟨rfl,rfl⟩|refine .inl (slM ?_)|refine .inl (slO ?_)|refine slM ?_|refine slO ?_|refine slN ?_|refine slS ?_|refine swB (swM fun C hC=>?_)|refine sj ?_|refine .inl (sv ?_)|refine sv ?_|refine cl ?_|refine s3 ?_|refine az ?_|refine rm ?_|refine VBs.own ?_|refine cf r1 ?_|refine cg r1 ?_|refine cz r1 ?_|refine cf r2 ?_|refine cg r2 ?_|refine cz r2 ?_|refine cf r3 ?_|refine cg r3 ?_|refine cz r3 ?_|refine cf r4 ?_|refine cg r4 ?_|refine cz r4 ?_|fail)<;>(try conv=>whnf))
    all_goals rfl
theorem wrap_e (path : List ByteArray) (hn : path.length ≤ 5) (hk : path.any (fun k => !okKey k) = false) : AFnP Try.prog 19 [.agg [.lst 0 [], .lst 0 []], lstE strE path] (wrapBadE 0) := by
  have r1 : AFnP Try.prog 21 [.agg [.lst 0 [], .lst 0 []]] (.bool true) := tright_a (.mk [] []) (by decide)
  have r2 := containsStr_a path (by omega) (g := 43) (fun k => !okKey k) (fun k => wrap1_a k)
  have r3 := emptyE_a
  have r5 : AFn Try.prog 38 [.agg [.lst 0 [], .lst 0 []]] [] (fun r h' => r = .agg [.lst 0 [], .own 0 0] ∧ h' = [.row 0 56 3 []]) := clone_o 4 (.mk [] []) (by decide) (by decide)
  rw [hk] at r2
  refine afnp_in ty_ok Try.call19 Try.func19 rfl rfl (by decide +kernel) ?_
  (try conv=>whnf)<;>repeat'((first|exact sNo|refine sT ?_|refine sF ?_|((first|refine sD ?_ ?_|refine sE ?_ ?_|refine sN ?_ ?_|refine sG ?_ ?_)<;>intro ht<;>(first|(cases ht;done)|skip))|refine wr ?_|refine ix ?_|refine ati ?_|refine row ?_|refine app ?_|refine dr ?_|refine VAnd.mk ?_ ?_|exact VJe.mk rfl ⟨rfl,rfl⟩|refine .inl (slM ?_)|refine .inl (slO ?_)|refine slM ?_|refine slO ?_|refine slN ?_|refine slS ?_|refine swB (swM fun C hC=>?_)|refine sj ?_|refine .inl (sv ?_)|refine sv ?_|refine cl ?_|refine s3 ?_|refine az ?_|refine rm ?_|refine VBs.own ?_|refine cf r1 ?_|refine cg r1 ?_|refine cz r1 ?_|refine cf r2 ?_|refine cg r2 ?_|refine cz r2 ?_|refine cf r3 ?_|refine cg r3 ?_|refine cz r3 ?_|(refine co r5 ?_;rintro r h' ⟨rfl,rfl⟩)|fail)<;>(try conv=>whnf))
  refine VLp.mk ⟨[], [], [2, 4, 6], fun k vs h => vs = [.op 0 0, .op 1 0, i64 ((path.length : Int) - 1)] ∧ h = [.blk 0 [.lst 0 [], .own 2 0] 25, .blk 1 [.nils, .nils] 25, .row 2 56 3 []], 0, ?_⟩
  conv => whnf
  refine ⟨⟨rfl, rfl⟩, ?_⟩
  rintro k vs h ⟨rfl, rfl⟩
  by_cases h0 : 0 ≤ (path.length : Int) - 1
  · (try conv=>whnf)<;>repeat'((first|exact sNo|refine sT ?_|refine sF ?_|((first|refine sD ?_ ?_|refine sE ?_ ?_|refine sN ?_ ?_|refine sG ?_ ?_)<;>intro ht<;>(first|(cases ht;done)|skip))|refine wr ?_|refine ix ?_|refine ati ?_|refine row ?_|refine app ?_|refine dr ?_|refine VAnd.mk ?_ ?_|exact VJe.mk rfl ⟨rfl,rfl⟩|refine .inl (slM ?_)|refine .inl (slO ?_)|refine slM ?_|refine slO ?_|refine slN ?_|refine slS ?_|refine swB (swM fun C hC=>?_)|refine sj ?_|refine .inl (sv ?_)|refine sv ?_|refine cl ?_|refine s3 ?_|refine az ?_|refine rm ?_|refine VBs.own ?_|refine cf r3 ?_|refine cg r3 ?_|refine cz r3 ?_|fail)<;>(try conv=>whnf))
    all_goals rfl
  · (try conv=>whnf)<;>repeat'((first|exact sNo|refine sT ?_|refine sF ?_|((first|refine sD ?_ ?_|refine sE ?_ ?_|refine sN ?_ ?_|refine sG ?_ ?_)<;>intro ht<;>(first|(cases ht;done)|skip))|refine wr ?_|refine ix ?_|refine ati ?_|refine row ?_|refine app ?_|refine dr ?_|refine VAnd.mk ?_ ?_|exact VJe.mk rfl ⟨rfl,rfl⟩|refine .inl (slM ?_)|refine .inl (slO ?_)|refine slM ?_|refine slO ?_|refine slN ?_|refine slS ?_|refine swB (swM fun C hC=>?_)|refine sj ?_|refine .inl (sv ?_)|refine sv ?_|refine cl ?_|refine s3 ?_|refine az ?_|refine rm ?_|refine VBs.own ?_|refine cf r3 ?_|refine cg r3 ?_|refine cz r3 ?_|fail)<;>(try conv=>whnf))
    all_goals rfl
/-! plain: wrapped trees -/
theorem rightT_of_deep : ∀ (d d' : Nat) (t : Tr8), rightT d t = true → deepT t ≤ d' → rightT d' t = true
  | 0, d', t, h, _ => by cases h
  | d + 1, 0, t, h, hd => by rw [deepT_eq] at hd; omega
  | d + 1, d' + 1, t, h, hd => by
    rw [deepT_eq] at hd
    have he : entsOk t.es = true := by simp only [rightT, Bool.and_eq_true] at h; exact h.1
    refine rightT_yes he fun i hi => ?_
    have hk := rightT_kid h hi
    rw [goodK_eq hi] at hk ⊢
    simp only [Bool.and_eq_true] at hk ⊢
    have := deepK_get hi
    exact ⟨hk.1, hk.2.1, hk.2.2.1, rightT_of_deep d d' _ hk.2.2.2 (by omega)⟩
theorem wrap_facts {t : Tr8} (d : Nat) (hr : rightT d t = true) (he : emptyT t = false) : ∀ {path : List ByteArray}, path.any (fun k => !okKey k) = false →
    rightT (d + path.length) (wrapT t path) = true ∧ deepT (wrapT t path) = deepT t + path.length ∧ cntT (wrapT t path) = cntT t + path.length ∧ allT (wrapT t path) = allT t ∧ emptyT (wrapT t path) = false
  | [], _ => ⟨hr, rfl, rfl, rfl, he⟩
  | p :: ps, hk => by
    simp only [List.any_cons, Bool.or_eq_false_iff, Bool.not_eq_false'] at hk
    obtain ⟨h1, h2, h3, h4, h5⟩ := wrap_facts d hr he (path := ps) hk.2
    have e : wrapT t (p :: ps) = .mk [] [(p, wrapT t ps)] := rfl
    rw [e]
    generalize wrapT t ps = c at *
    refine ⟨?_, ?_, ?_, ?_, ?_⟩
    · refine rightT_yes rfl fun i hi => ?_
      have h0 : i = 0 := by simp [Tr8.ks] at hi; exact hi
      subst h0
      rw [goodK_eq (by simpa using hi)]
      simp [Tr8.ks, hk.1, h5, h1]
    · rw [deepT_eq]
      have : deepK (Tr8.mk [] [(p, c)]).ks = Nat.max (deepT c) 0 := rfl
      rw [this, h2]
      show Nat.max (deepT t + ps.length) 0 + 1 = deepT t + (ps.length + 1)
      have : Nat.max (deepT t + ps.length) 0 = deepT t + ps.length := Nat.max_eq_left (Nat.zero_le _)
      omega
    · rw [cntT_eq]
      show 0 + 1 + (cntT c + 0) = cntT t + (ps.length + 1)
      omega
    · rw [allT_eq]
      show [] ++ (allT c ++ []) = allT t
      rw [h4]; simp
    · simp [emptyT, Tr8.es, Tr8.ks]
theorem get_wrap {t : Tr8} : ∀ {path : List ByteArray}, getT (wrapT t path) path = some t
  | [] => rfl
  | p :: ps => by
    have e : wrapT t (p :: ps) = .mk [] [(p, wrapT t ps)] := rfl
    rw [e]
    unfold getT
    rw [List.foldl_cons]
    have hs : stepT (.mk [] [(p, wrapT t ps)]) p = some (wrapT t ps) := by simp [stepT, Tr8.ks, List.findIdx?_cons, eqKey]
    show ps.foldl (fun o p => o.bind fun c => stepT c p) (stepT (.mk [] [(p, wrapT t ps)]) p) = some t
    rw [hs]
    exact get_wrap (path := ps)
theorem get_other {t : Tr8} {p o : ByteArray} {ps : List ByteArray} (h : ¬ o.toList = p.toList) : getT (wrapT t (p :: ps)) [o] = none := by
  have e : wrapT t (p :: ps) = .mk [] [(p, wrapT t ps)] := rfl
  rw [e]
  have hk : eqKey p o = false := by unfold eqKey; exact beq_eq_false_iff_ne.2 fun h2 => h h2.symm
  simp [getT, stepT, Tr8.ks, List.findIdx?_cons, hk]
theorem few_a (l : List ByteArray) : AFnP Try.prog 13 [lstE strE l] (.bool (decide (l.length ≤ 20))) := by
  refine afnp_in ty_ok Try.call13 Try.func13 rfl rfl (by decide +kernel) ?_
  (try conv=>whnf)<;>repeat'((first|exact sNo|refine sT ?_|refine sF ?_|((first|refine sD ?_ ?_|refine sE ?_ ?_|refine sN ?_ ?_|refine sG ?_ ?_)<;>intro ht<;>(first|(cases ht;done)|skip))|refine wr ?_|refine ix ?_|refine ati ?_|refine row ?_|refine app ?_|refine dr ?_|refine VAnd.mk ?_ ?_|exact VJe.mk rfl ⟨rfl,rfl⟩|refine .inl (slM ?_)|refine .inl (slO ?_)|refine slM ?_|refine slO ?_|refine slN ?_|refine slS ?_|refine swB (swM fun C hC=>?_)|refine sj ?_|refine .inl (sv ?_)|refine sv ?_|refine cl ?_|refine s3 ?_|refine az ?_|refine rm ?_|refine VBs.own ?_|fail)<;>(try conv=>whnf))
  all_goals (refine congrArg AV.bool ?_; rw [Bool.eq_iff_iff]; simp only [decide_eq_true_eq, Bool.false_eq_true, false_iff, true_iff]; omega)
theorem few_p {l : List ByteArray} {b : Bool} (h : decide (l.length ≤ 20) = b) : AFnP Try.prog 13 [lstE strE l] (.bool b) := by subst h; exact few_a l
end Go.Proofs.Ytailblpjmgabjaa
