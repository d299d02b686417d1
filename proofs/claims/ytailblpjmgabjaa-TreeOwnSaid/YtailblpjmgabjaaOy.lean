/- What is proved: chapter 08's law function TreeOwn answers true. Conditions: none. -/
import Derived.Test.YtailblpjmgabjaaOx
import Derived.Test.YtailblpjmgabjaaOi
import Derived.Test.YtailblpjmgabjaaTm
namespace Go.Proofs.Ytailblpjmgabjaa
open Go.RowKit
set_option linter.unusedVariables false
set_option linter.unusedSimpArgs false
set_option maxRecDepth 100000
set_option maxHeartbeats 100000000
theorem same_l (t : Tr8) (hc : cntT t ≤ 1000000) {a b : Sl3} {Qt Qr Q : List RowD} (hp : Q.Perm (Qt ++ Qr)) (h : OwnT t a b Qt) : AFn Try.prog 17 [.agg [lstE entE t.es, lstE kidRow t.ks], .agg [sv3 a, sv3 b]] [.bag 0 Q] (fun r h' => r = .bool true ∧ h' = [.bag 0 Q]) := by
  refine AFn.lend Try.call17 (same_p (a := t) (b := t) (deepT t) (Nat.le_refl _) hc hc (sameT_refl _ _ (Nat.le_refl _))) rfl (fun E w vs hH hw hv => ?_)
  have hsub : ∀ D ∈ Qt, D ∈ Q := fun D hD => hp.mem_iff.2 (List.mem_append_left _ hD)
  have a1 := OwnT_read (H := Go.Proofs.Ytailblpjmgabjaa.hp w) (deepT t) (Nat.le_refl _) h (fun D hD => hw.1 D (hsub D hD)) (fun D hD b hb => rfl)
  simp only [VL] at hv ⊢
  obtain ⟨u, _, rfl, h1, u2, _, rfl, h2, rfl⟩ := hv
  refine ⟨_, _, rfl, ?_, _, _, rfl, ?_, rfl⟩
  · have h1 := h1.mono (E' := ⟨Go.Proofs.Ytailblpjmgabjaa.hp w, E.m, E.g, E.nx⟩) ⟨hH, Nat.le_refl _, fun _ _ => rfl, fun _ _ => rfl⟩
    simp only [V, VL] at h1 ⊢
    exact h1
  · simp only [V, VL] at h2
    obtain ⟨us, rfl, _, _, rfl, rfl, _, _, rfl, rfl, rfl⟩ := h2
    show V _ (.agg _) _
    simp only [V]
    exact ⟨_, rfl, a1⟩
theorem lawOwn_a (t : Tr8) (hb : bndT t) (keys : List ByteArray) : AFnP Try.prog 8 [.agg [lstE entE t.es, lstE kidRow t.ks], lstE strE keys] (.bool true) := by
  refine AFnP.arena ?_ rfl
  have r0 := awake_a
  cases hs : decide (0 ≤ roomT 8 t 60)
  · have s1 := small_p t 60 hb (by decide) (by decide) hs
    rw [kidRow_fun] at s1 ⊢
    refine afn_in ty_ok Try.call8 Try.func8 rfl rfl (by decide +kernel) ?_
    (try conv=>whnf)<;>repeat'((first|exact sNo|refine sT ?_|refine sF ?_|((first|refine sD ?_ ?_|refine sE ?_ ?_|refine sN ?_ ?_|refine sG ?_ ?_)<;>intro ht<;>(first|(cases ht;done)|skip))|refine wr ?_|refine ix ?_|refine ati ?_|refine row ?_|refine app ?_|refine dr ?_|refine VAnd.mk ?_ ?_|exact VJe.mk rfl ⟨rfl,rfl⟩|refine .inl (slM ?_)|refine .inl (slO ?_)|refine slM ?_|refine slO ?_|refine slN ?_|refine slS ?_|refine swB (swM fun C hC=>?_)|refine sj ?_|refine .inl (sv ?_)|refine sv ?_|refine cl ?_|refine s3 ?_|refine az ?_|refine rm ?_|refine VBs.own ?_|refine cf r0 ?_|refine cg r0 ?_|refine cz r0 ?_|refine cf s1 ?_|refine cg s1 ?_|refine cz s1 ?_|fail)<;>(try conv=>whnf))
    all_goals exact VRt.mk rfl ⟨rfl, _, rfl⟩
  have s1 := small_p t 60 hb (by decide) (by decide) hs
  have hc := small_cnt (by decide) hs
  cases hf : decide (keys.length ≤ 20)
  · have s2 := few_p hf
    rw [kidRow_fun] at s1 ⊢
    refine afn_in ty_ok Try.call8 Try.func8 rfl rfl (by decide +kernel) ?_
    (try conv=>whnf)<;>repeat'((first|exact sNo|refine sT ?_|refine sF ?_|((first|refine sD ?_ ?_|refine sE ?_ ?_|refine sN ?_ ?_|refine sG ?_ ?_)<;>intro ht<;>(first|(cases ht;done)|skip))|refine wr ?_|refine ix ?_|refine ati ?_|refine row ?_|refine app ?_|refine dr ?_|refine VAnd.mk ?_ ?_|exact VJe.mk rfl ⟨rfl,rfl⟩|refine .inl (slM ?_)|refine .inl (slO ?_)|refine slM ?_|refine slO ?_|refine slN ?_|refine slS ?_|refine swB (swM fun C hC=>?_)|refine sj ?_|refine .inl (sv ?_)|refine sv ?_|refine cl ?_|refine s3 ?_|refine az ?_|refine rm ?_|refine VBs.own ?_|refine cf r0 ?_|refine cg r0 ?_|refine cz r0 ?_|refine cf s1 ?_|refine cg s1 ?_|refine cz s1 ?_|refine cf s2 ?_|refine cg s2 ?_|refine cz s2 ?_|fail)<;>(try conv=>whnf))
    all_goals exact VRt.mk rfl ⟨rfl, _, rfl⟩
  have s2 := few_p hf
  have hk := of_decide_eq_true hf
  have hc1 : cntT t ≤ 1000000 := by omega
  have q0 := rcloneA (deepT t) t (Nat.le_refl _) hc1 []
  have q1 := fun Ps => Clone_s t hc1 Ps
  have q2 := fun Ps => Get_s t keys hc1 (by omega) Ps
  have q3 := fun Ps => Only_s t keys hc1 (by omega) Ps
  have q4 := fun Ps => Without_s t keys hc1 (by omega) Ps
  have q5 := fun Ps => Wrap_s t keys (by omega) (by omega) Ps
  have q6 := fun (a b : Sl3) (Qt Qr Q : List RowD) (hp : Q.Perm (Qt ++ Qr)) (h : OwnT t a b Qt) => same_l t hc1 hp h
  rw [kidRow_fun] at s1 q0 q1 q2 q3 q4 q5 q6 ⊢
  refine afn_in ty_ok Try.call8 Try.func8 rfl rfl (by decide +kernel) ?_
  (try conv=>whnf)<;>repeat'((first|exact sNo|refine sT ?_|refine sF ?_|((first|refine sD ?_ ?_|refine sE ?_ ?_|refine sN ?_ ?_|refine sG ?_ ?_)<;>intro ht<;>(first|(cases ht;done)|skip))|refine wr ?_|refine ix ?_|refine ati ?_|refine row ?_|refine app ?_|refine dr ?_|refine VAnd.mk ?_ ?_|exact VJe.mk rfl ⟨rfl,rfl⟩|refine .inl (slM ?_)|refine .inl (slO ?_)|refine slM ?_|refine slO ?_|refine slN ?_|refine slS ?_|refine swB (swM fun C hC=>?_)|refine sj ?_|refine .inl (sv ?_)|refine sv ?_|refine cl ?_|refine s3 ?_|refine az ?_|refine rm ?_|refine VBs.own ?_|refine cf r0 ?_|refine cg r0 ?_|refine cz r0 ?_|refine cf s1 ?_|refine cg s1 ?_|refine cz s1 ?_|refine cf s2 ?_|refine cg s2 ?_|refine cz s2 ?_|(refine ca q0 ?_;rintro r h' ⟨a,b,Qt,Q0,rfl,rfl,hp0,ho⟩)|fail)<;>(try conv=>whnf))
  have hch : ∀ {A B G Qr : List RowD}, B.Perm (G ++ A) → A.Perm (Qt ++ Qr) → B.Perm (Qt ++ (G ++ Qr)) := fun h1 h2 => (h1.trans (h2.append_left _)).trans (by
    rw [← List.append_assoc, ← List.append_assoc]
    exact List.perm_append_comm.append_right _)
  (try conv=>whnf)<;>repeat'((first|exact sNo|refine sT ?_|refine sF ?_|((first|refine sD ?_ ?_|refine sE ?_ ?_|refine sN ?_ ?_|refine sG ?_ ?_)<;>intro ht<;>(first|(cases ht;done)|skip))|refine wr ?_|refine ix ?_|refine ati ?_|refine row ?_|refine app ?_|refine dr ?_|refine VAnd.mk ?_ ?_|exact VJe.mk rfl ⟨rfl,rfl⟩|refine .inl (slM ?_)|refine .inl (slO ?_)|refine slM ?_|refine slO ?_|refine slN ?_|refine slS ?_|refine swB (swM fun C hC=>?_)|refine sj ?_|refine .inl (sv ?_)|refine sv ?_|refine cl ?_|refine s3 ?_|refine az ?_|refine rm ?_|refine VBs.own ?_|(refine ca (q1 Q0) ?_;rintro r h' ⟨a1,b1,Q1',rfl,rfl,w1⟩)|(refine ca w1 ?_;rintro r h' ⟨rfl,Q1,G1,rfl,hp1⟩)|(refine ca (q2 Q1) ?_;rintro r h' ⟨a2,b2,Q2',rfl,rfl,w2⟩)|(refine ca w2 ?_;rintro r h' ⟨rfl,Q2,G2,rfl,hp2⟩)|(refine ca (q3 Q2) ?_;rintro r h' ⟨a3,b3,Q3',rfl,rfl,w3⟩)|(refine ca w3 ?_;rintro r h' ⟨rfl,Q3,G3,rfl,hp3⟩)|(refine ca (q4 Q3) ?_;rintro r h' ⟨a4,b4,Q4',rfl,rfl,w4⟩)|(refine ca w4 ?_;rintro r h' ⟨rfl,Q4,G4,rfl,hp4⟩)|(refine ca (q5 Q4) ?_;rintro r h' ⟨_,e,rfl,a5,b5,Q5',rfl,rfl,w5⟩)|(refine ca w5 ?_;rintro r h' ⟨rfl,Q5,G5,rfl,hp5⟩)|(refine ca (q6 a b Qt _ Q5 (hch hp5 (hch hp4 (hch hp3 (hch hp2 (hch hp1 hp0))))) ho) ?_;rintro r h' ⟨rfl,rfl⟩)|fail)<;>(try conv=>whnf))
  all_goals exact VRt.mk rfl ⟨rfl, _, rfl⟩
end Go.Proofs.Ytailblpjmgabjaa
