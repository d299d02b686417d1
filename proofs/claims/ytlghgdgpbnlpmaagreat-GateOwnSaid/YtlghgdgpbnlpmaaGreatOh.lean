/- What is proved: chapter 23's law function GateOwn answers true. Conditions: none. -/
import Derived.Test.YtlghgdgpbnlpmaaGreatMOc
import Derived.Test.YtlghgdgpbnlpmaaGreatMOb
import Derived.Test.YtlghgdgpbnlpmaaGreatGo
namespace Go.Proofs.YtlghgdgpbnlpmaaGreat
open Go.RowKit
set_option linter.unusedVariables false
set_option linter.unusedSimpArgs false
set_option maxRecDepth 100000
set_option maxHeartbeats 100000000
theorem gi_small {g : List Bun} (h : GI g) : ∀ b ∈ g, SmB b := fun b hb => (h.ok b hb).2
theorem AFnP.weak3 {P : Program} {f : FuncId} {args : List AV} {x y z : AV} (h : AFnP P f args (.tup [x, y, z])) : AFnP P f args (.tup [x, .junk, .junk]) := fun H vs hv => (h H vs hv).mono fun _ _ _ _ hr => by
  simp only [V, VL] at hr ⊢
  obtain ⟨us, rfl, u, us', rfl, h1, u2, us'', rfl, _, u3, us3, rfl, _, rfl⟩ := hr
  exact ⟨_, rfl, _, _, rfl, h1, _, _, rfl, trivial, _, _, rfl, trivial, rfl⟩
/-! a nil gate -/
theorem gclear_n : AFnP Tryz.prog 19 [.nilp] (.tup []) := by
  refine afp ty_ok Tryz.call19 Tryz.func19 ?_
  (try conv=>whnf)<;>repeat'((first|exact sNo|refine sT ?_|refine sF ?_|((first|refine sD ?_ ?_|refine sE ?_ ?_|refine sN ?_ ?_|refine sG ?_ ?_)<;>intro ht<;>(first|(cases ht;done)|skip))|refine wr ?_|refine ix ?_|refine ati ?_|refine row ?_|refine app ?_|refine dr ?_|refine VAnd.mk ?_ ?_|exact VJe.mk rfl ⟨rfl,rfl⟩|refine .inl (slM ?_)|refine .inl (slO ?_)|refine slM ?_|refine slO ?_|refine slN ?_|refine slS ?_|refine swB (swM fun C hC=>?_)|refine sj ?_|refine .inl (sv ?_)|refine sv ?_|refine cl ?_|refine s3 ?_|refine az ?_|refine rm ?_|refine VBs.own ?_|fail)<;>(try conv=>whnf))
  all_goals rfl
theorem gadd_n : AFnP Tryz.prog 14 [.nilp, .agg (bunE firstB)] (.tup [.bool false, i64 1]) := by
  refine afp ty_ok Tryz.call14 Tryz.func14 ?_
  (try conv=>whnf)<;>repeat'((first|exact sNo|refine sT ?_|refine sF ?_|((first|refine sD ?_ ?_|refine sE ?_ ?_|refine sN ?_ ?_|refine sG ?_ ?_)<;>intro ht<;>(first|(cases ht;done)|skip))|refine wr ?_|refine ix ?_|refine ati ?_|refine row ?_|refine app ?_|refine dr ?_|refine VAnd.mk ?_ ?_|exact VJe.mk rfl ⟨rfl,rfl⟩|refine .inl (slM ?_)|refine .inl (slO ?_)|refine slM ?_|refine slO ?_|refine slN ?_|refine slS ?_|refine swB (swM fun C hC=>?_)|refine sj ?_|refine .inl (sv ?_)|refine sv ?_|refine cl ?_|refine s3 ?_|refine az ?_|refine rm ?_|refine VBs.own ?_|fail)<;>(try conv=>whnf))
  all_goals rfl
theorem gnext_n : AFnP Tryz.prog 16 [.nilp, .agg [i64 0, i64 0, i64 0, i64 0]] (.tup [.agg (bunE zeroB), .bool false]) := by
  refine afp ty_ok Tryz.call16 Tryz.func16 ?_
  (try conv=>whnf)<;>repeat'((first|exact sNo|refine sT ?_|refine sF ?_|((first|refine sD ?_ ?_|refine sE ?_ ?_|refine sN ?_ ?_|refine sG ?_ ?_)<;>intro ht<;>(first|(cases ht;done)|skip))|refine wr ?_|refine ix ?_|refine ati ?_|refine row ?_|refine app ?_|refine dr ?_|refine VAnd.mk ?_ ?_|exact VJe.mk rfl ⟨rfl,rfl⟩|refine .inl (slM ?_)|refine .inl (slO ?_)|refine slM ?_|refine slO ?_|refine slN ?_|refine slS ?_|refine swB (swM fun C hC=>?_)|refine sj ?_|refine .inl (sv ?_)|refine sv ?_|refine cl ?_|refine s3 ?_|refine az ?_|refine rm ?_|refine VBs.own ?_|fail)<;>(try conv=>whnf))
  all_goals rfl
theorem glen_n : AFnP Tryz.prog 20 [.nilp] (i64 0) := by
  refine afp ty_ok Tryz.call20 Tryz.func20 ?_
  (try conv=>whnf)<;>repeat'((first|exact sNo|refine sT ?_|refine sF ?_|((first|refine sD ?_ ?_|refine sE ?_ ?_|refine sN ?_ ?_|refine sG ?_ ?_)<;>intro ht<;>(first|(cases ht;done)|skip))|refine wr ?_|refine ix ?_|refine ati ?_|refine row ?_|refine app ?_|refine dr ?_|refine VAnd.mk ?_ ?_|exact VJe.mk rfl ⟨rfl,rfl⟩|refine .inl (slM ?_)|refine .inl (slO ?_)|refine slM ?_|refine slO ?_|refine slN ?_|refine slS ?_|refine swB (swM fun C hC=>?_)|refine sj ?_|refine .inl (sv ?_)|refine sv ?_|refine cl ?_|refine s3 ?_|refine az ?_|refine rm ?_|refine VBs.own ?_|fail)<;>(try conv=>whnf))
  all_goals rfl
theorem gall_n : AFnP Tryz.prog 22 [.nilp] (.lst 0 []) := by
  refine afp ty_ok Tryz.call22 Tryz.func22 ?_
  (try conv=>whnf)<;>repeat'((first|exact sNo|refine sT ?_|refine sF ?_|((first|refine sD ?_ ?_|refine sE ?_ ?_|refine sN ?_ ?_|refine sG ?_ ?_)<;>intro ht<;>(first|(cases ht;done)|skip))|refine wr ?_|refine ix ?_|refine ati ?_|refine row ?_|refine app ?_|refine dr ?_|refine VAnd.mk ?_ ?_|exact VJe.mk rfl ⟨rfl,rfl⟩|refine .inl (slM ?_)|refine .inl (slO ?_)|refine slM ?_|refine slO ?_|refine slN ?_|refine slS ?_|refine swB (swM fun C hC=>?_)|refine sj ?_|refine .inl (sv ?_)|refine sv ?_|refine cl ?_|refine s3 ?_|refine az ?_|refine rm ?_|refine VBs.own ?_|fail)<;>(try conv=>whnf))
  all_goals rfl
theorem OwnL_cons {z : BnO} {Z : List BnO} {Q : List RowD} (h : OwnL (z :: Z) Q) : ∃ D Q1 Q2, Q = D :: (Q1 ++ Q2) ∧ OwnT z.1.t z.2.1 z.2.2.1 Q1 ∧ OwnL Z Q2 := by
  rw [OwnL] at h
  obtain ⟨Qa, Q2, rfl, ⟨D, Q1, rfl, _, h1⟩, h2⟩ := h
  exact ⟨D, Q1, Q2, rfl, h1, h2⟩
theorem own_perm {Qj Q1 Q2 G : List RowD} {d : RowD} (h : Qj.Perm (d :: (Q1 ++ Q2) ++ G)) : Qj.Perm (Q1 ++ (d :: (Q2 ++ G))) := by
  refine h.trans ?_
  rw [List.cons_append, List.append_assoc]
  exact List.perm_middle.symm
theorem lawOwn_a (l : List Bun) (hb : ∀ b ∈ l, bndT b.t) : AFnP Tryz.prog 4 [lstE bunE l] (.bool true) := by
  refine AFnP.arena ?_ rfl
  refine afn_in ty_ok Tryz.call4 Tryz.func4 rfl rfl (by decide +kernel) ?_
  have r0 := awake_a
  cases hs : (decide (l.length ≤ 20) && l.all fun b => smallB b 30)
  · have s1 := rsmalls_p (n := 20) (by decide) hb hs
    (try conv=>whnf)<;>repeat'((first|exact sNo|refine sT ?_|refine sF ?_|((first|refine sD ?_ ?_|refine sE ?_ ?_|refine sN ?_ ?_|refine sG ?_ ?_)<;>intro ht<;>(first|(cases ht;done)|skip))|refine wr ?_|refine ix ?_|refine ati ?_|refine row ?_|refine app ?_|refine dr ?_|refine VAnd.mk ?_ ?_|exact VJe.mk rfl ⟨rfl,rfl⟩|refine .inl (slM ?_)|refine .inl (slO ?_)|refine slM ?_|refine slO ?_|refine slN ?_|refine slS ?_|refine swB (swM fun C hC=>?_)|refine sj ?_|refine .inl (sv ?_)|refine sv ?_|refine cl ?_|refine s3 ?_|refine az ?_|refine rm ?_|refine VBs.own ?_|refine cf r0 ?_|refine cg r0 ?_|refine cz r0 ?_|refine cf s1 ?_|refine cg s1 ?_|refine cz s1 ?_|fail)<;>(try conv=>whnf))
    all_goals exact VRt.mk rfl ⟨rfl, _, rfl⟩
  have s1 := rsmalls_p (n := 20) (by decide) hb hs
  rw [Bool.and_eq_true, decide_eq_true_eq] at hs
  obtain ⟨hs0, hs1⟩ := hs
  have hS : ∀ b ∈ l, SmB b := fun b hb' => small_SmB (by decide) (List.all_eq_true.1 hs1 b hb')
  (try conv=>whnf)<;>repeat'((first|exact sNo|refine sT ?_|refine sF ?_|((first|refine sD ?_ ?_|refine sE ?_ ?_|refine sN ?_ ?_|refine sG ?_ ?_)<;>intro ht<;>(first|(cases ht;done)|skip))|refine wr ?_|refine ix ?_|refine ati ?_|refine row ?_|refine app ?_|refine dr ?_|refine VAnd.mk ?_ ?_|exact VJe.mk rfl ⟨rfl,rfl⟩|refine .inl (slM ?_)|refine .inl (slO ?_)|refine slM ?_|refine slO ?_|refine slN ?_|refine slS ?_|refine swB (swM fun C hC=>?_)|refine sj ?_|refine .inl (sv ?_)|refine sv ?_|refine cl ?_|refine s3 ?_|refine az ?_|refine rm ?_|refine VBs.own ?_|refine cf r0 ?_|refine cg r0 ?_|refine cz r0 ?_|refine cf s1 ?_|refine cg s1 ?_|refine cz s1 ?_|fail)<;>(try conv=>whnf))
  refine VLp.mk ⟨[.flat 1 0], [3, 5], [26], fun k vs h => ∃ (i : Nat) (g : List Bun) (c : AV) (Q : List RowD), vs = [i64 i] ∧ h = [.bag 0 Q, gB 1 g, .blk 2 [c] 31] ∧ i ≤ l.length ∧ k = l.length - i ∧ GI g ∧ g.length ≤ 64 ∧ (c = lstE bunE g ∨ (c = .nils ∧ g = [])), l.length, ?_⟩
  conv => whnf
  refine ⟨⟨0, [], .nils, [], rfl, rfl, by omega, by omega, GI.nil, by decide, .inr ⟨rfl, rfl⟩⟩, ?_⟩
  rintro k vs h ⟨i, g, c, Q, rfl, rfl, hi, rfl, hG, hg, hc⟩
  by_cases hin : i < l.length
  · have hSb := hS _ (List.getElem_mem hin)
    have hcnt := hSb.cnt
    have q0 := rcloneA (deepT l[i].t) l[i].t (Nat.le_refl _) (by omega) Q
    have hG' := hG.add hSb
    have hg' := addG_len (b := l[i]) hg
    have q2 := (radd_a g l[i] hG hg hSb).weak3
    have q1 := fun (x : Sl3 × Sl3) (Qt Q' : List RowD) (hp : Q'.Perm (Qt ++ Q)) (ho : OwnT l[i].t x.1 x.2 Qt) => gadd_l g l[i] hG hg hSb hp ho
    have q3 := fun (a b : Sl3) (Qt Q' : List RowD) (hp : Q'.Perm (Qt ++ Q)) (ho : OwnT l[i].t a b Qt) => scribA (deepT l[i].t) l[i].t (Nat.le_refl _) (by omega) a b Qt Q Q' ho hp
    have q4 := fun Ps => gall_A (addG g l[i]).1 hG' hg' Ps
    generalize (addG g l[i]).2.1 = ok at *
    generalize (addG g l[i]).2.2 = e at *
    generalize (addG g l[i]).1 = g' at *
    rcases hc with rfl | ⟨rfl, rfl⟩
    all_goals
      (try conv=>whnf)<;>repeat'((first|exact sNo|refine sT ?_|refine sF ?_|((first|refine sD ?_ ?_|refine sE ?_ ?_|refine sN ?_ ?_|refine sG ?_ ?_)<;>intro ht<;>(first|(cases ht;done)|skip))|refine wr ?_|refine ix ?_|refine ati ?_|refine row ?_|refine app ?_|refine dr ?_|refine VAnd.mk ?_ ?_|exact VJe.mk rfl ⟨rfl,rfl⟩|refine .inl (slM ?_)|refine .inl (slO ?_)|refine slM ?_|refine slO ?_|refine slN ?_|refine slS ?_|refine swB (swM fun C hC=>?_)|refine sj ?_|refine .inl (sv ?_)|refine sv ?_|refine cl ?_|refine s3 ?_|refine az ?_|refine rm ?_|refine VBs.own ?_|(refine ca q0 ?_;rintro r h' ⟨a,b,Qt,Q',rfl,rfl,hp,ho⟩)|fail)<;>(try conv=>whnf))
      (try conv=>whnf)<;>repeat'((first|(refine .inr (.inr (VJn.mk ⟨[1005,2000],[],[],4,fun vs h => vs = [] ∧ h = [.bag 0 Q',gB 1 g',.blk 2 [lstE bunE g'] 31,.blk 3 [i64 l[i].dc,i64 l[i].af,i64 l[i].la,i64 (l[i].dp 0),i64 (l[i].dp 1),i64 (l[i].dp 2),i64 (l[i].dp 3),.sval a.1 a.2.1 a.2.2,.sval b.1 b.2.1 b.2.2,.lst l[i].c.length (l[i].c.map spE)] 43],?_⟩));(conv => whnf);refine ⟨by decide +kernel,?_,?_⟩;rotate_left;rintro _ _ ⟨rfl,rfl⟩;rotate_right)|exact sNo|refine sT ?_|refine sF ?_|((first|refine sD ?_ ?_|refine sE ?_ ?_|refine sN ?_ ?_|refine sG ?_ ?_)<;>intro ht<;>(first|(cases ht;done)|skip))|refine wr ?_|refine ix ?_|refine ati ?_|refine row ?_|refine app ?_|refine dr ?_|refine VAnd.mk ?_ ?_|exact VJe.mk rfl ⟨rfl,rfl⟩|refine .inl (slM ?_)|refine .inl (slO ?_)|refine slM ?_|refine slO ?_|refine slN ?_|refine slS ?_|refine swB (swM fun C hC=>?_)|refine sj ?_|refine .inl (sv ?_)|refine sv ?_|refine cl ?_|refine s3 ?_|refine az ?_|refine rm ?_|refine VBs.own ?_|(refine ca (q1 (a,b) Qt Q' hp ho) ?_;rintro r h' ⟨rfl,rfl⟩)|refine cp q2 ?_|refine cf q2 ?_|refine cg q2 ?_|refine cz q2 ?_|fail)<;>(try conv=>whnf))
      all_goals
        (try conv=>whnf)<;>repeat'((first|exact sNo|refine sT ?_|refine sF ?_|((first|refine sD ?_ ?_|refine sE ?_ ?_|refine sN ?_ ?_|refine sG ?_ ?_)<;>intro ht<;>(first|(cases ht;done)|skip))|refine wr ?_|refine ix ?_|refine ati ?_|refine row ?_|refine app ?_|refine dr ?_|refine VAnd.mk ?_ ?_|exact VJe.mk rfl ⟨rfl,rfl⟩|refine .inl (slM ?_)|refine .inl (slO ?_)|refine slM ?_|refine slO ?_|refine slN ?_|refine slS ?_|refine swB (swM fun C hC=>?_)|refine sj ?_|refine .inl (sv ?_)|refine sv ?_|refine cl ?_|refine s3 ?_|refine az ?_|refine rm ?_|refine VBs.own ?_|(refine ca (q3 a b Qt Q' hp ho) ?_;rintro r h' ⟨rfl,Q1,rfl,hp1⟩)|fail)<;>(try conv=>whnf))
        (try conv=>whnf)<;>repeat'((first|exact sNo|refine sT ?_|refine sF ?_|((first|refine sD ?_ ?_|refine sE ?_ ?_|refine sN ?_ ?_|refine sG ?_ ?_)<;>intro ht<;>(first|(cases ht;done)|skip))|refine wr ?_|refine ix ?_|refine ati ?_|refine row ?_|refine app ?_|refine dr ?_|refine VAnd.mk ?_ ?_|exact VJe.mk rfl ⟨rfl,rfl⟩|refine .inl (slM ?_)|refine .inl (slO ?_)|refine slM ?_|refine slO ?_|refine slN ?_|refine slS ?_|refine swB (swM fun C hC=>?_)|refine sj ?_|refine .inl (sv ?_)|refine sv ?_|refine cl ?_|refine s3 ?_|refine az ?_|refine rm ?_|refine VBs.own ?_|(refine ca (q4 Q1) ?_;rintro r h' ⟨Z,Q2,Q3,rfl,rfl,hZ,hp2,hO⟩)|fail)<;>(try conv=>whnf))
        have hZl : Z.length = g'.length := by rw [← hZ, List.length_map]
        refine VLp.mk ⟨[], [3, 5, 8], [60], fun k vs h => ∃ (j : Nat) (Qj Qd G : List RowD), vs = [i64 j] ∧ h = [.bag 0 Qj, gB 1 g', .blk 2 [lstE bunE g'] 31, .row 3 50 10 (Z.map bnO)] ∧ j ≤ Z.length ∧ k = Z.length - j ∧ Qj.Perm (Qd ++ G) ∧ OwnL (Z.drop j) Qd, Z.length, ?_⟩
        conv => whnf
        refine ⟨⟨0, Q3, Q2, Q1, rfl, rfl, by omega, by omega, hp2, hO⟩, ?_⟩
        clear hp2 hO q1 q3 q4 q0 hp ho hp1
        rintro k vs h ⟨j, Qj, Qd, G, rfl, rfl, hj, rfl, hpj, hOj⟩
        by_cases hjn : j < Z.length
        · rw [List.drop_eq_getElem_cons hjn] at hOj
          obtain ⟨D, Qa, Qb, rfl, hot, hOr⟩ := OwnL_cons hOj
          have hz : Z[j].1 ∈ g' := by
            rw [← hZ]
            exact List.mem_map.2 ⟨Z[j], List.getElem_mem hjn, rfl⟩
          have hcz := (gi_small hG' _ hz).cnt
          have q := scribA (deepT Z[j].1.t) Z[j].1.t (Nat.le_refl _) (by omega) _ _ Qa (D :: (Qb ++ G)) Qj hot (own_perm hpj)
          have hr : (Z.map bnO)[j]? = some (bnO Z[j]) := by rw [List.getElem?_map, List.getElem?_eq_getElem hjn] <;> rfl
          (try conv=>whnf)<;>repeat'((first|exact sNo|refine sT ?_|refine sF ?_|((first|refine sD ?_ ?_|refine sE ?_ ?_|refine sN ?_ ?_|refine sG ?_ ?_)<;>intro ht<;>(first|(cases ht;done)|skip))|refine wr ?_|refine ix ?_|refine ati ?_|refine row ?_|refine app ?_|refine dr ?_|refine VAnd.mk ?_ ?_|exact VJe.mk rfl ⟨rfl,rfl⟩|refine .inl (slM ?_)|refine .inl (slO ?_)|refine slM ?_|refine slO ?_|refine slN ?_|refine slS ?_|refine swB (swM fun C hC=>?_)|refine sj ?_|refine .inl (sv ?_)|refine sv ?_|refine cl ?_|refine s3 ?_|refine az ?_|refine rm ?_|refine VBs.own ?_|(refine ca q ?_;rintro r h' ⟨rfl,Q5,rfl,hp5⟩)|fail)<;>(try conv=>whnf))
          all_goals exact VRd.mk rfl ⟨Z.length - (j + 1), by omega, j + 1, Q5, Qb, D :: G, rfl, rfl, by omega, rfl, hp5.trans List.perm_middle.symm, hOr⟩
        · (try conv=>whnf)<;>repeat'((first|exact sNo|refine sT ?_|refine sF ?_|((first|refine sD ?_ ?_|refine sE ?_ ?_|refine sN ?_ ?_|refine sG ?_ ?_)<;>intro ht<;>(first|(cases ht;done)|skip))|refine wr ?_|refine ix ?_|refine ati ?_|refine row ?_|refine app ?_|refine dr ?_|refine VAnd.mk ?_ ?_|exact VJe.mk rfl ⟨rfl,rfl⟩|refine .inl (slM ?_)|refine .inl (slO ?_)|refine slM ?_|refine slO ?_|refine slN ?_|refine slS ?_|refine swB (swM fun C hC=>?_)|refine sj ?_|refine .inl (sv ?_)|refine sv ?_|refine cl ?_|refine s3 ?_|refine az ?_|refine rm ?_|refine VBs.own ?_|fail)<;>(try conv=>whnf))
          all_goals exact VRd.mk rfl ⟨l.length - (i + 1), by omega, i + 1, g', _, Qj, rfl, rfl, by omega, rfl, hG', hg', .inl rfl⟩
  · have q1 := gclear_n
    have q2 := first_a
    have q3 := gadd_n
    have q4 := gnext_n
    have q5 := gall_o g hG hg
    have q6 := alike_a g (by omega) (gi_small hG)
    have q7 := rsame_B zeroB zeroB_Sm
    have q8 := glen_n
    have q9 := gall_n
    rcases hc with rfl | ⟨rfl, rfl⟩
    all_goals
      (try conv=>whnf)<;>repeat'((first|exact sNo|refine sT ?_|refine sF ?_|((first|refine sD ?_ ?_|refine sE ?_ ?_|refine sN ?_ ?_|refine sG ?_ ?_)<;>intro ht<;>(first|(cases ht;done)|skip))|refine wr ?_|refine ix ?_|refine ati ?_|refine row ?_|refine app ?_|refine dr ?_|refine VAnd.mk ?_ ?_|exact VJe.mk rfl ⟨rfl,rfl⟩|refine .inl (slM ?_)|refine .inl (slO ?_)|refine slM ?_|refine slO ?_|refine slN ?_|refine slS ?_|refine swB (swM fun C hC=>?_)|refine sj ?_|refine .inl (sv ?_)|refine sv ?_|refine cl ?_|refine s3 ?_|refine az ?_|refine rm ?_|refine VBs.own ?_|refine cf q1 ?_|refine cg q1 ?_|refine cz q1 ?_|refine cf q2 ?_|refine cg q2 ?_|refine cz q2 ?_|refine cf q3 ?_|refine cg q3 ?_|refine cz q3 ?_|fail)<;>(try conv=>whnf))
      (try conv=>whnf)<;>repeat'((first|(refine drx [1,2000] [3] [2] ?_;(try conv=>whnf);(fail_if_success (show False)))|exact sNo|refine sT ?_|refine sF ?_|((first|refine sD ?_ ?_|refine sE ?_ ?_|refine sN ?_ ?_|refine sG ?_ ?_)<;>intro ht<;>(first|(cases ht;done)|skip))|refine wr ?_|refine ix ?_|refine ati ?_|refine row ?_|refine app ?_|refine dr ?_|refine VAnd.mk ?_ ?_|exact VJe.mk rfl ⟨rfl,rfl⟩|refine .inl (slM ?_)|refine .inl (slO ?_)|refine slM ?_|refine slO ?_|refine slN ?_|refine slS ?_|refine swB (swM fun C hC=>?_)|refine sj ?_|refine .inl (sv ?_)|refine sv ?_|refine cl ?_|refine s3 ?_|refine az ?_|refine rm ?_|refine VBs.own ?_|refine cp q4 ?_|refine cf q4 ?_|refine cg q4 ?_|refine cz q4 ?_|(refine co q5 ?_;rintro r h' ⟨rfl,rfl⟩)|refine cp q6 ?_|refine cf q6 ?_|refine cg q6 ?_|refine cz q6 ?_|refine cp q7 ?_|refine cf q7 ?_|refine cg q7 ?_|refine cz q7 ?_|refine cp q8 ?_|refine cf q8 ?_|refine cg q8 ?_|refine cz q8 ?_|refine cp q9 ?_|refine cf q9 ?_|refine cg q9 ?_|refine cz q9 ?_|fail)<;>(try conv=>whnf))
      all_goals exact VRt.mk rfl ⟨rfl, _, rfl⟩
end Go.Proofs.YtlghgdgpbnlpmaaGreat
