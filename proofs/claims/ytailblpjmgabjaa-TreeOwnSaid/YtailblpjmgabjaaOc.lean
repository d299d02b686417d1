/- What is proved: tree.clone answers a tree that lies in the caller's arena. Conditions: none. -/
import Derived.Test.YtailblpjmgabjaaOw
import Derived.Test.YtailblpjmgabjaaVz
namespace Go.Proofs.Ytailblpjmgabjaa
open Go.RowKit
set_option linter.unusedVariables false
set_option linter.unusedSimpArgs false
set_option maxRecDepth 100000
set_option maxHeartbeats 16000000
theorem VLL_flat {α : Type} {E : Env} {f : α → List AV} {g : α → List Value} (h : ∀ x, flatL (f x) = some (g x)) : ∀ {l : List α} {rs : List (List Value)}, VLL E (l.map f) rs → rs = l.map g
  | [], rs, hv => by simpa [VLL] using hv
  | x :: l, rs, hv => by
    simp only [List.map_cons, VLL] at hv
    obtain ⟨us, rs', rfl, h1, h2⟩ := hv
    rw [(flatL_spec E _ _ (h x)).2 us h1, VLL_flat h h2]
    rfl
/-- an answer that is the tree t, in the arena -/
def AnsT (t : Tr8) (Ps : List RowD) (r : AV) (h' : List AP) : Prop := ∃ a b Q Q', r = .agg [sv3 a, sv3 b] ∧ h' = [.bag 0 Q'] ∧ Q'.Perm (Q ++ Ps) ∧ OwnT t a b Q
/-- two own rows that are a tree go into the arena -/
theorem AFn.tree {P : Program} {f : FuncId} {args : List AV} {Ps : List RowD} {t : Tr8} (ha : AFn P f args [.bag 0 Ps] (fun r h' => ∃ (xs : List Kd3) (Q Q' : List RowD), r = .agg [.own 1 t.es.length, .own 2 t.ks.length] ∧ h' = [.bag 0 Q', .row 1 63 4 (t.es.map entE), .row 2 56 3 (xs.map kdE)] ∧ Q'.Perm (Q ++ Ps) ∧ OwnK t.ks xs Q ∧ xs.length = t.ks.length)) : AFn P f args [.bag 0 Ps] (AnsT t Ps) := by
  refine ha.into ?_
  rintro r h' ⟨xs, Q, Q', rfl, rfl, hp, ho, hx⟩
  refine ⟨Q', _, _, t.es.map entE, _, _, xs.map kdE, by rw [List.length_map, List.length_map, hx], rfl, fun E a1 c1 a2 c2 rs1 rs2 g1 g2 => ?_⟩
  have e1 := VLL_flat (f := entE) (g := entV) (fun _ => rfl) g1
  have e2 := VLL_flat (f := kdE) (g := kdV) (fun _ => rfl) g2
  refine ⟨(a1, _, c1), (a2, _, c2), _, _, rfl, rfl, (hp.cons _).cons _, (OwnT_iff ..).2 ⟨_, _, xs, Q, rfl, ⟨rfl, rfl, rfl, e1, List.length_map ..⟩, ⟨rfl, rfl, rfl, e2, List.length_map ..⟩, ho⟩⟩
theorem cloneE_o (l : List Ent8) (hn : l.length ≤ 1000000) : AFn Try.prog 59 [lstE entE l] [] (fun r h' => r = .own 0 l.length ∧ h' = [.row 0 63 4 (l.map entE)]) := by
  refine AFn.nilV (El := 63) (k := 4) (R' := fun r h' => (r = .nils ∧ h' = [] ∧ l.length = 0) ∨ (r = .own 0 l.length ∧ h' = [.row 0 63 4 (l.map entE)])) ?_ (fun r h' hr => hr.symm.imp id fun ⟨h1, h2, h3⟩ => ⟨h1, h2, by rw [h3], by rw [List.eq_nil_of_length_eq_zero h3]; rfl⟩)
  refine afn_in ty_ok Try.call59 Try.func59 rfl rfl (by decide +kernel) ?_
  (try conv=>whnf)<;>repeat'((first|exact sNo|refine sT ?_|refine sF ?_|((first|refine sD ?_ ?_|refine sE ?_ ?_|refine sN ?_ ?_|refine sG ?_ ?_)<;>intro ht<;>(first|(cases ht;done)|skip))|refine wr ?_|refine ix ?_|refine ati ?_|refine row ?_|refine app ?_|refine dr ?_|refine VAnd.mk ?_ ?_|exact VJe.mk rfl ⟨rfl,rfl⟩|refine .inl (slM ?_)|refine .inl (slO ?_)|refine slM ?_|refine slO ?_|refine slN ?_|refine slS ?_|refine swB (swM fun C hC=>?_)|refine sj ?_|refine .inl (sv ?_)|refine sv ?_|refine cl ?_|refine s3 ?_|refine az ?_|refine rm ?_|refine VBs.own ?_|refine vNl (fun hb => ?_) ?_|fail)<;>(try conv=>whnf))
  · exact VRt.mk rfl (.inl ⟨rfl, rfl, by assumption⟩)
  · exact VRt.mk rfl (.inr ⟨by simp, rfl⟩)
/-- a tree whose top rows are own, and whose kids lie in the arena -/
def TopT (t : Tr8) (Ps : List RowD) (r : AV) (h' : List AP) : Prop := ∃ (xs : List Kd3) (Q Q' : List RowD), r = .agg [.own 1 t.es.length, .own 2 t.ks.length] ∧ h' = [.bag 0 Q', .row 1 63 4 (t.es.map entE), .row 2 56 3 (xs.map kdE)] ∧ Q'.Perm (Q ++ Ps) ∧ OwnK t.ks xs Q ∧ xs.length = t.ks.length
theorem cloneO_of {d : Nat} (ih : ∀ (t : Tr8), rightT d t = true → cntT t ≤ 1000000 → ∀ Ps, AFn Try.prog 38 [.agg [lstE entE t.es, lstE kidRow t.ks]] [.bag 0 Ps] (AnsT t Ps)) (t : Tr8) (hr : rightT (d + 1) t = true) (hc : cntT t ≤ 1000000) (Ps : List RowD) : AFn Try.prog 38 [.agg [lstE entE t.es, lstE kidRow t.ks]] [.bag 0 Ps] (TopT t Ps) := by
  rw [kidRow_fun]
  refine afn_in ty_ok Try.call38 Try.func38 rfl rfl (by decide +kernel) ?_
  have hcnt := cntT_eq t
  have r1 := cloneE_o t.es (by omega)
  (try conv=>whnf)<;>repeat'((first|exact sNo|refine sT ?_|refine sF ?_|((first|refine sD ?_ ?_|refine sE ?_ ?_|refine sN ?_ ?_|refine sG ?_ ?_)<;>intro ht<;>(first|(cases ht;done)|skip))|refine wr ?_|refine ix ?_|refine ati ?_|refine row ?_|refine app ?_|refine dr ?_|refine VAnd.mk ?_ ?_|exact VJe.mk rfl ⟨rfl,rfl⟩|refine .inl (slM ?_)|refine .inl (slO ?_)|refine slM ?_|refine slO ?_|refine slN ?_|refine slS ?_|refine swB (swM fun C hC=>?_)|refine sj ?_|refine .inl (sv ?_)|refine sv ?_|refine cl ?_|refine s3 ?_|refine az ?_|refine rm ?_|refine VBs.own ?_|(refine co r1 ?_;rintro r h' ⟨rfl,rfl⟩)|fail)<;>(try conv=>whnf))
  refine VLp.mk ⟨[.cell 4 1 56 3], [], [2, 3, 13], fun k vs h => ∃ (i : Nat) (xs : List Kd3) (Q Q' : List RowD), vs = [.op 1 0, .op 2 0, i64 i] ∧ h = [.bag 0 Q', .blk 1 [.nils, .nils] 25, .blk 2 [.own 3 t.es.length, .own 4 xs.length] 25, .row 3 63 4 (t.es.map entE), .row 4 56 3 (xs.map kdE)] ∧ i ≤ t.ks.length ∧ k = t.ks.length - i ∧ Q'.Perm (Q ++ Ps) ∧ OwnK (t.ks.take i) xs Q ∧ xs.length = i, t.ks.length, ?_⟩
  conv => whnf
  refine ⟨⟨0, [], [], Ps, rfl, rfl, by omega, by omega, List.Perm.refl _, by rw [List.take_zero, OwnK]; exact ⟨rfl, rfl⟩, rfl⟩, ?_⟩
  rintro k vs h ⟨i, xs, Q, Q', rfl, rfl, hi, rfl, hp, ho, hx⟩
  by_cases hin : i < t.ks.length
  · have hcx := cntK_mem (List.getElem_mem hin)
    have r := ih t.ks[i].2 (rightT_child hr hin) (by omega) Q'
    (try conv=>whnf)<;>repeat'((first|(refine drx [1,3,5,6,2000] [] [] ?_;(try conv=>whnf);(fail_if_success (show False)))|exact sNo|refine sT ?_|refine sF ?_|((first|refine sD ?_ ?_|refine sE ?_ ?_|refine sN ?_ ?_|refine sG ?_ ?_)<;>intro ht<;>(first|(cases ht;done)|skip))|refine wr ?_|refine ix ?_|refine ati ?_|refine row ?_|refine app ?_|refine dr ?_|refine VAnd.mk ?_ ?_|exact VJe.mk rfl ⟨rfl,rfl⟩|refine .inl (slM ?_)|refine .inl (slO ?_)|refine slM ?_|refine slO ?_|refine slN ?_|refine slS ?_|refine swB (swM fun C hC=>?_)|refine sj ?_|refine .inl (sv ?_)|refine sv ?_|refine cl ?_|refine s3 ?_|refine az ?_|refine rm ?_|refine VBs.own ?_|(refine ca r ?_;rintro r h' ⟨a,b,Qi,Qi',rfl,rfl,hpi,hoi⟩)|fail)<;>(try conv=>whnf))
    all_goals exact VRd.mk rfl ⟨t.ks.length - (i + 1), by omega, i + 1, xs ++ [(t.ks[i].1, a, b)], Q ++ Qi, Qi', rfl, by simp [kdE], by omega, rfl, (hpi.trans (hp.append_left _)).trans (by rw [← List.append_assoc]; exact List.perm_append_comm.append_right _), by rw [← take_snoc hin]; exact OwnK_snoc ho hoi, by simp [hx]⟩
  · obtain rfl : i = t.ks.length := by omega
    rw [List.take_length] at ho
    (try conv=>whnf)<;>repeat'((first|exact sNo|refine sT ?_|refine sF ?_|((first|refine sD ?_ ?_|refine sE ?_ ?_|refine sN ?_ ?_|refine sG ?_ ?_)<;>intro ht<;>(first|(cases ht;done)|skip))|refine wr ?_|refine ix ?_|refine ati ?_|refine row ?_|refine app ?_|refine dr ?_|refine VAnd.mk ?_ ?_|exact VJe.mk rfl ⟨rfl,rfl⟩|refine .inl (slM ?_)|refine .inl (slO ?_)|refine slM ?_|refine slO ?_|refine slN ?_|refine slS ?_|refine swB (swM fun C hC=>?_)|refine sj ?_|refine .inl (sv ?_)|refine sv ?_|refine cl ?_|refine s3 ?_|refine az ?_|refine rm ?_|refine VBs.own ?_|fail)<;>(try conv=>whnf))
    all_goals exact VRt.mk rfl ⟨xs, Q, Q', by rw [hx] <;> rfl, rfl, hp, ho, hx⟩
theorem cloneA : ∀ (d : Nat) (t : Tr8), rightT d t = true → cntT t ≤ 1000000 → ∀ Ps, AFn Try.prog 38 [.agg [lstE entE t.es, lstE kidRow t.ks]] [.bag 0 Ps] (AnsT t Ps)
  | 0, t, hr, hc, _ => by cases hr
  | d + 1, t, hr, hc, Ps => AFn.tree (cloneO_of (cloneA d) t hr hc Ps)
theorem cloneO {d : Nat} (t : Tr8) (hr : rightT (d + 1) t = true) (hc : cntT t ≤ 1000000) (Ps : List RowD) : AFn Try.prog 38 [.agg [lstE entE t.es, lstE kidRow t.ks]] [.bag 0 Ps] (TopT t Ps) := cloneO_of (cloneA d) t hr hc Ps
end Go.Proofs.Ytailblpjmgabjaa
