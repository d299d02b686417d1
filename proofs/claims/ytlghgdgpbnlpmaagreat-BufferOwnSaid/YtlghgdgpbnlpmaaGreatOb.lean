/- What is proved: a buffer takes in a bundle that lies in the caller's arena, and answers what another center lacks into the arena. Conditions: none. -/
import Derived.Test.YtlghgdgpbnlpmaaGreatMOc
import Derived.Test.YtlghgdgpbnlpmaaGreatMHb
namespace Go.Proofs.YtlghgdgpbnlpmaaGreat
open Go.RowKit
set_option linter.unusedVariables false
set_option linter.unusedSimpArgs false
set_option maxRecDepth 100000
set_option maxHeartbeats 100000000
attribute [local irreducible] AFnP AFn AFnR
theorem badd_l (b : Buf) (x : Bun) (hB : BI b) (hx : SmB x) (hl : b.last < 1000000) {y : Sl3 × Sl3} {Qt Qr Q : List RowD} (hpp : Q.Perm (Qt ++ Qr)) (ho : OwnT x.t y.1 y.2 Qt) : AFn Tryz.prog 47 [.op 1 0, .agg (bunM x y)] [.bag 0 Q, bufP 1 b] (fun r h' => r = .tup [i64 (addBuf b x).2.1, i64 (addBuf b x).2.2] ∧ h' = [.bag 0 Q, bufP 1 (addBuf b x).1]) := by
  refine afn_in ty_ok Tryz.call47 Tryz.func47 rfl rfl (by decide +kernel) ?_
  unfold bufP bufE addBuf
  have hlast := hB.last
  have hlen := hB.len
  cases hR : rightB x
  · have r1 := bright_l hx hpp ho hR
    rw [if_neg (by decide)]
    dsimp only
    unfold lstE at *
    generalize b.m.map prB = R at *
    generalize b.m.length = nn at *
    (try conv=>whnf)<;>repeat'((first|exact sNo|refine sT ?_|refine sF ?_|((first|refine sD ?_ ?_|refine sE ?_ ?_|refine sN ?_ ?_|refine sG ?_ ?_)<;>intro ht<;>(first|(cases ht;done)|skip))|refine wr ?_|refine ix ?_|refine ati ?_|refine row ?_|refine app ?_|refine dr ?_|refine VAnd.mk ?_ ?_|exact VJe.mk rfl ⟨rfl,rfl⟩|refine .inl (slM ?_)|refine .inl (slO ?_)|refine slM ?_|refine slO ?_|refine slN ?_|refine slS ?_|refine swB (swM fun C hC=>?_)|refine sj ?_|refine .inl (sv ?_)|refine sv ?_|refine cl ?_|refine s3 ?_|refine az ?_|refine rm ?_|refine VBs.own ?_|(refine ca r1 ?_;rintro r h' ⟨rfl,rfl⟩)|fail)<;>(try conv=>whnf))
    all_goals exact VRt.mk rfl ⟨rfl, rfl⟩
  · have r1 := bright_l hx hpp ho hR
    rw [if_pos rfl]
    have r2 := bclone_l hx hpp ho hR
    have r3 := putB_a b.m (by omega) hB.srt (b.last + 1) x
    have hp : ∀ p ∈ b.m, p.1 < b.last + 1 := fun p hp => by have := hB.le p hp; omega
    rw [put_end hp] at r3
    have hs := hB.app x
    have r4 := lenB_a (b.m ++ [(b.last + 1, x)])
    rw [List.length_append, List.length_singleton] at r4
    have hl2 : (b.m ++ [(b.last + 1, x)]).length = b.m.length + 1 := by simp
    dsimp only
    unfold addM
    by_cases h64 : 64 ≤ b.m.length
    · rw [if_pos h64]
      have r5 := allB_a (b.m ++ [(b.last + 1, x)]) (by omega)
      obtain ⟨p, t, hpt⟩ := drop_one (l := b.m ++ [(b.last + 1, x)]) (by omega)
      have r6 := delB_a (b.m ++ [(b.last + 1, x)]) (by omega) hs p.1
      have e : delM ltI p.1 (b.m ++ [(b.last + 1, x)]) = (b.m ++ [(b.last + 1, x)]).drop 1 := by rw [hpt]; exact del_head
      have hrow : ((b.m ++ [(b.last + 1, x)]).map prB)[0]? = some (i64 p.1 :: bunE p.2) := by rw [hpt]; rfl
      rw [e] at r6
      clear e hpt
      have hn := hl2
      generalize hM : b.m ++ [(b.last + 1, x)] = M at *
      generalize M.drop 1 = M1 at *
      unfold lstE at *
      generalize b.m.length = nn at *
      generalize b.m.map prB = c at *
      clear hM hs hn
      generalize M.map prB = Q at *
      (try conv=>whnf)<;>repeat'((first|(refine drx [4,8,10,2000] [9] [2] ?_;(try conv=>whnf);(fail_if_success (show False)))|(refine drx [1009,1013,2000] [] [] ?_;(try conv=>whnf);(fail_if_success (show False)))|exact sNo|refine sT ?_|refine sF ?_|((first|refine sD ?_ ?_|refine sE ?_ ?_|refine sN ?_ ?_|refine sG ?_ ?_)<;>intro ht<;>(first|(cases ht;done)|skip))|refine wr ?_|refine ix ?_|refine ati ?_|refine row ?_|refine app ?_|refine dr ?_|refine VAnd.mk ?_ ?_|exact VJe.mk rfl ⟨rfl,rfl⟩|refine .inl (slM ?_)|refine .inl (slO ?_)|refine slM ?_|refine slO ?_|refine slN ?_|refine slS ?_|refine swB (swM fun C hC=>?_)|refine sj ?_|refine .inl (sv ?_)|refine sv ?_|refine cl ?_|refine s3 ?_|refine az ?_|refine rm ?_|refine VBs.own ?_|(refine ca r1 ?_;rintro r h' ⟨rfl,rfl⟩)|(refine ca r2 ?_;rintro r h' ⟨rfl,rfl⟩)|refine cp r3 ?_|refine cf r3 ?_|refine cg r3 ?_|refine cz r3 ?_|refine cp r4 ?_|refine cf r4 ?_|refine cg r4 ?_|refine cz r4 ?_|refine cp r5 ?_|refine cf r5 ?_|refine cg r5 ?_|refine cz r5 ?_|refine cp r6 ?_|refine cf r6 ?_|refine cg r6 ?_|refine cz r6 ?_|fail)<;>(try conv=>whnf))
      all_goals exact VRt.mk rfl ⟨rfl, rfl⟩
    · rw [if_neg h64]
      generalize b.m ++ [(b.last + 1, x)] = M at *
      have hnn := hlen
      unfold lstE at *
      generalize b.m.length = nn at *
      generalize b.m.map prB = R at *
      (try conv=>whnf)<;>repeat'((first|(refine drx [4,8,10,2000] [9] [2] ?_;(try conv=>whnf);(fail_if_success (show False)))|exact sNo|refine sT ?_|refine sF ?_|((first|refine sD ?_ ?_|refine sE ?_ ?_|refine sN ?_ ?_|refine sG ?_ ?_)<;>intro ht<;>(first|(cases ht;done)|skip))|refine wr ?_|refine ix ?_|refine ati ?_|refine row ?_|refine app ?_|refine dr ?_|refine VAnd.mk ?_ ?_|exact VJe.mk rfl ⟨rfl,rfl⟩|refine .inl (slM ?_)|refine .inl (slO ?_)|refine slM ?_|refine slO ?_|refine slN ?_|refine slS ?_|refine swB (swM fun C hC=>?_)|refine sj ?_|refine .inl (sv ?_)|refine sv ?_|refine cl ?_|refine s3 ?_|refine az ?_|refine rm ?_|refine VBs.own ?_|(refine ca r1 ?_;rintro r h' ⟨rfl,rfl⟩)|(refine ca r2 ?_;rintro r h' ⟨rfl,rfl⟩)|refine cf r3 ?_|refine cg r3 ?_|refine cz r3 ?_|refine cf r4 ?_|refine cg r4 ?_|refine cz r4 ?_|refine cp r3 ?_|fail)<;>(try conv=>whnf))
      all_goals exact VRt.mk rfl ⟨rfl, rfl⟩
theorem bfor_A (b : Buf) (v : Int → Int) (q : Int) (hB : BI b) (h : forOk b 1 v q = true) (Ps : List RowD) : AFn Tryz.prog 37 [.op 1 0, i64 1, vecE v, i64 q] [.bag 0 Ps, bufP 1 b] (fun r h' => ∃ Z Q Q', r = .tup [.own 2 Z.length, .bool (atMost v (forS b 1).1), i64 0] ∧ h' = [.bag 0 Q', bufP 1 b, .row 2 50 10 (Z.map bnO)] ∧ Z.map (·.1) = (forS b 1).2.take q.toNat ∧ Q'.Perm (Q ++ Ps) ∧ OwnL Z Q) := by
  refine afn_in ty_ok Tryz.call37 Tryz.func37 rfl rfl (by decide +kernel) ?_
  unfold forOk at h
  rw [Bool.and_eq_true, Bool.and_eq_true, decide_eq_true_eq] at h
  obtain ⟨⟨hp, hv⟩, hq1, hq2⟩ := h
  obtain ⟨q', hq'⟩ : ∃ q' : Nat, q = (q' : Int) := ⟨q.toNat, (Int.toNat_of_nonneg (by omega)).symm⟩
  subst hq'
  rw [Int.toNat_natCast]
  have r1 := bpeer_p hp
  have r2 := bvec_p hv
  have hlen := hB.len
  have r3 := allB_a b.m (by omega)
  obtain ⟨F, hF⟩ : ∃ F : SS, F = forS b 1 := ⟨_, rfl⟩
  rw [← hF]
  obtain ⟨S, hS⟩ : ∃ S : Nat → SS, ∀ j, S j = iterS (b.m.map (·.2)) j (b.has 1, []) := ⟨_, fun _ => rfl⟩
  have hR : ∀ x ∈ b.m.map (·.2), rightB x = true := fun x hx => by
    obtain ⟨p, hp, rfl⟩ := List.mem_map.1 hx
    exact (hB.ok p hp).1
  have hSm : ∀ i (hi : i < b.m.length), SmB b.m[i].2 := fun i hi => (hB.ok _ (List.getElem_mem hi)).2
  have hRi : ∀ i (hi : i < b.m.length), rightB b.m[i].2 = true := fun i hi => (hB.ok _ (List.getElem_mem hi)).1
  have hend : ∀ j, noneS (b.m.map (·.2)) (S j).1 → F = S j := fun j hj => by
    rw [hS] at hj
    rw [hF, forS, hS, iterS_same hR hj, List.length_map]
  have hrow := fun i (h : i < b.m.length) => m_row (m := b.m) h
  have hS0 : S 0 = (b.has 1, []) := by rw [hS, iter_zero]
  have hSs : ∀ j, S (j + 1) = passS (b.m.map (·.2)) (S j) := fun j => by rw [hS, hS, iter_succ]
  have hLl : (b.m.map (·.2)).length = b.m.length := List.length_map ..
  have hLg : ∀ i (hi : i < b.m.length), (b.m.map (·.2))[i]'(by rw [hLl]; exact hi) = b.m[i].2 := fun i hi => List.getElem_map ..
  clear hF hS hB
  unfold bufP bufE at *
  unfold lstE at *
  generalize hm : b.m = m at *
  clear hm
  generalize m.map prB = R at *
  generalize hL : m.map (·.2) = L at *
  obtain ⟨nn, hnn⟩ : ∃ nn, m.length = nn := ⟨_, rfl⟩
  rw [hnn] at r1 r3 hlen ⊢
  have e0 := congrArg Prod.fst hS0
  dsimp only at e0
  have e1 := congrArg Prod.snd hS0
  dsimp only at e1
  (try conv=>whnf)<;>repeat'((first|exact sNo|refine sT ?_|refine sF ?_|((first|refine sD ?_ ?_|refine sE ?_ ?_|refine sN ?_ ?_|refine sG ?_ ?_)<;>intro ht<;>(first|(cases ht;done)|skip))|refine wr ?_|refine ix ?_|refine ati ?_|refine row ?_|refine app ?_|refine dr ?_|refine VAnd.mk ?_ ?_|exact VJe.mk rfl ⟨rfl,rfl⟩|refine .inl (slM ?_)|refine .inl (slO ?_)|refine slM ?_|refine slO ?_|refine slN ?_|refine slS ?_|refine swB (swM fun C hC=>?_)|refine sj ?_|refine .inl (sv ?_)|refine sv ?_|refine cl ?_|refine s3 ?_|refine az ?_|refine rm ?_|refine VBs.own ?_|refine cf r1 ?_|refine cg r1 ?_|refine cz r1 ?_|refine cf r2 ?_|refine cg r2 ?_|refine cz r2 ?_|fail)<;>(try conv=>whnf))
  refine VLp.mk ⟨[.slot 12 50 10], [6, 11], [12, 13], fun k vs h => ∃ (j : Nat) (t : Bool) (Z : List BnO) (Q Q' : List RowD), vs = [.own 4 Z.length, .bool t] ∧ h = [.bag 0 Q', .blk 1 (i64 b.self :: i64 b.cn :: .lst nn R :: i64 b.last :: hcE b) 137, .blk 2 [i64 (v 0), i64 (v 1), i64 (v 2), i64 (v 3)] 33, .blk 3 [i64 ((S j).1 0), i64 ((S j).1 1), i64 ((S j).1 2), i64 ((S j).1 3)] 33, .row 4 50 10 (Z.map bnO)] ∧ (t = false → noneS L (S j).1) ∧ k = 2 * pend L (S j).1 + t.toNat ∧ Z.map (·.1) = (S j).2.take q' ∧ Q'.Perm (Q ++ Ps) ∧ OwnL Z Q, 2 * pend L (S 0).1 + 1, ?_⟩
  conv => whnf
  refine ⟨⟨0, true, [], [], Ps, rfl, by rw [e0] <;> rfl, fun h => (by cases h), rfl, by rw [e1, List.take_nil] <;> rfl, List.Perm.refl _, rfl⟩, ?_⟩
  rintro k vs h ⟨j, t, Z, Q, Q', rfl, rfl, ht0, rfl, hZ, hpm, hO⟩
  have hne := hend j
  cases t
  · have hx := hne (ht0 rfl)
    subst hx
    have r4 := batl_a (S j).1 v
    generalize S j = s at *
    generalize atMost v s.1 = t at *
    cases t
    all_goals (try conv=>whnf)<;>repeat'((first|exact sNo|refine sT ?_|refine sF ?_|((first|refine sD ?_ ?_|refine sE ?_ ?_|refine sN ?_ ?_|refine sG ?_ ?_)<;>intro ht<;>(first|(cases ht;done)|skip))|refine wr ?_|refine ix ?_|refine ati ?_|refine row ?_|refine app ?_|refine dr ?_|refine VAnd.mk ?_ ?_|exact VJe.mk rfl ⟨rfl,rfl⟩|refine .inl (slM ?_)|refine .inl (slO ?_)|refine slM ?_|refine slO ?_|refine slN ?_|refine slS ?_|refine swB (swM fun C hC=>?_)|refine sj ?_|refine .inl (sv ?_)|refine sv ?_|refine cl ?_|refine s3 ?_|refine az ?_|refine rm ?_|refine VBs.own ?_|refine cf r4 ?_|refine cg r4 ?_|refine cz r4 ?_|fail)<;>(try conv=>whnf))
    all_goals exact VRt.mk rfl ⟨Z, Q, Q', rfl, rfl, hZ, hpm, hO⟩
  · clear ht0
    have hSj := hSs j
    obtain ⟨P, hP⟩ : ∃ P : Nat → SS, ∀ i, P i = passS (L.take i) (S j) := ⟨_, fun _ => rfl⟩
    have hP0 : P 0 = S j := by rw [hP, List.take_zero] <;> rfl
    have hPs : ∀ i (hi : i < m.length), P (i + 1) = stepS (P i) m[i].2 := fun i hi => by
      rw [hP, hP, passS_take (by omega), hLg i (by omega)]
    have hPn : P nn = S (j + 1) := by rw [hSj, hP, List.take_of_length_le (by omega)]
    have hPl : ∀ i, (S j).2.length ≤ (P i).2.length := fun i => by rw [hP]; exact passS_len _ _
    (try conv=>whnf)<;>repeat'((first|exact sNo|refine sT ?_|refine sF ?_|((first|refine sD ?_ ?_|refine sE ?_ ?_|refine sN ?_ ?_|refine sG ?_ ?_)<;>intro ht<;>(first|(cases ht;done)|skip))|refine wr ?_|refine ix ?_|refine ati ?_|refine row ?_|refine app ?_|refine dr ?_|refine VAnd.mk ?_ ?_|exact VJe.mk rfl ⟨rfl,rfl⟩|refine .inl (slM ?_)|refine .inl (slO ?_)|refine slM ?_|refine slO ?_|refine slN ?_|refine slS ?_|refine swB (swM fun C hC=>?_)|refine sj ?_|refine .inl (sv ?_)|refine sv ?_|refine cl ?_|refine s3 ?_|refine az ?_|refine rm ?_|refine VBs.own ?_|refine cf r3 ?_|refine cg r3 ?_|refine cz r3 ?_|fail)<;>(try conv=>whnf))
    refine VLp.mk ⟨[], [6, 11], [12, 13, 46], fun k vs h => ∃ (i : Nat) (Z : List BnO) (Q Q' : List RowD), vs = [.own 4 Z.length, .bool (decide ((S j).2.length < (P i).2.length)), i64 i] ∧ h = [.bag 0 Q', .blk 1 (i64 b.self :: i64 b.cn :: .lst nn R :: i64 b.last :: hcE b) 137, .blk 2 [i64 (v 0), i64 (v 1), i64 (v 2), i64 (v 3)] 33, .blk 3 [i64 ((P i).1 0), i64 ((P i).1 1), i64 ((P i).1 2), i64 ((P i).1 3)] 33, .row 4 50 10 (Z.map bnO)] ∧ i ≤ nn ∧ k = nn - i ∧ Z.map (·.1) = (P i).2.take q' ∧ Q'.Perm (Q ++ Ps) ∧ OwnL Z Q, nn, ?_⟩
    conv => whnf
    refine ⟨⟨0, Z, Q, Q', by rw [hP0, decide_eq_false (Nat.lt_irrefl _)] <;> rfl, by rw [hP0] <;> rfl, by omega, by omega, by rw [hP0]; exact hZ, hpm, hO⟩, ?_⟩
    clear hZ hpm hO
    rintro k vs h ⟨i, Z, Q, Q', rfl, rfl, hi, rfl, hZ, hpm, hO⟩
    have hZl : Z.length = min q' (P i).2.length := by
      have := congrArg List.length hZ
      rwa [List.length_map, List.length_take] at this
    by_cases hin : i < nn
    · have hri := hrow i (by omega)
      have hsi := hSm i (by omega)
      have hrr := hRi i (by omega)
      have hst := hPs i (by omega)
      have hl := hPl i
      generalize m[i].2 = x at *
      cases hk : readyB x (P i).1
      · have q1 := bready_p hsi hk
        rw [stepS_no hk] at hst
        (try conv=>whnf)<;>repeat'((first|exact sNo|refine sT ?_|refine sF ?_|((first|refine sD ?_ ?_|refine sE ?_ ?_|refine sN ?_ ?_|refine sG ?_ ?_)<;>intro ht<;>(first|(cases ht;done)|skip))|refine wr ?_|refine ix ?_|refine ati ?_|refine row ?_|refine app ?_|refine dr ?_|refine VAnd.mk ?_ ?_|exact VJe.mk rfl ⟨rfl,rfl⟩|refine .inl (slM ?_)|refine .inl (slO ?_)|refine slM ?_|refine slO ?_|refine slN ?_|refine slS ?_|refine swB (swM fun C hC=>?_)|refine sj ?_|refine .inl (sv ?_)|refine sv ?_|refine cl ?_|refine s3 ?_|refine az ?_|refine rm ?_|refine VBs.own ?_|refine cf q1 ?_|refine cg q1 ?_|refine cz q1 ?_|fail)<;>(try conv=>whnf))
        all_goals exact VRd.mk rfl ⟨nn - (i + 1), by omega, i + 1, Z, Q, Q', by rw [hst] <;> rfl, by rw [hst] <;> rfl, by omega, rfl, by rw [hst]; exact hZ, hpm, hO⟩
      · have q1 := bready_p hsi hk
        have q2 := bbehind_a x hsi hrr (P i).1
        have q3 := bcloneA x hsi hrr Q'
        rw [stepS_yes hk] at hst
        have f1 := congrArg Prod.fst hst
        have f2 := congrArg Prod.snd hst
        dsimp only at f1 f2
        have hd : decide ((S j).2.length < (P (i + 1)).2.length) = true := by
          rw [f2]
          exact decide_eq_true (by simp; omega)
        by_cases hlt : (P i).2.length < q'
        · have g1 : ∀ y : Bn3, (Z ++ [(x, y)]).map (·.1) = (P (i + 1)).2.take q' := fun y => by
            rw [List.map_append, hZ, f2, List.take_of_length_le (by omega), List.take_of_length_le (by simp; omega)]
            rfl
          (try conv=>whnf)<;>repeat'((first|exact sNo|refine sT ?_|refine sF ?_|((first|refine sD ?_ ?_|refine sE ?_ ?_|refine sN ?_ ?_|refine sG ?_ ?_)<;>intro ht<;>(first|(cases ht;done)|skip))|refine wr ?_|refine ix ?_|refine ati ?_|refine row ?_|refine app ?_|refine dr ?_|refine VAnd.mk ?_ ?_|exact VJe.mk rfl ⟨rfl,rfl⟩|refine .inl (slM ?_)|refine .inl (slO ?_)|refine slM ?_|refine slO ?_|refine slN ?_|refine slS ?_|refine swB (swM fun C hC=>?_)|refine sj ?_|refine .inl (sv ?_)|refine sv ?_|refine cl ?_|refine s3 ?_|refine az ?_|refine rm ?_|refine VBs.own ?_|refine cf q1 ?_|refine cg q1 ?_|refine cz q1 ?_|refine cf q2 ?_|refine cg q2 ?_|refine cz q2 ?_|(refine ca q3 ?_;rintro r h' ⟨y,Qi,Qi',rfl,rfl,hpi,hoi⟩)|fail)<;>(try conv=>whnf))
          all_goals exact VRd.mk rfl ⟨nn - (i + 1), by omega, i + 1, Z ++ [(x, y)], Q ++ Qi, Qi', by rw [hd, List.length_append] <;> rfl, by rw [f1, List.map_append] <;> rfl, by omega, rfl, g1 y, (hpi.trans (hpm.append_left _)).trans (by rw [← List.append_assoc]; exact List.perm_append_comm.append_right _), OwnL_snoc hO hoi⟩
        · have g1 := take_stay (q := q') (o := (P i).2) (by omega) x
          rw [← f2] at g1
          (try conv=>whnf)<;>repeat'((first|exact sNo|refine sT ?_|refine sF ?_|((first|refine sD ?_ ?_|refine sE ?_ ?_|refine sN ?_ ?_|refine sG ?_ ?_)<;>intro ht<;>(first|(cases ht;done)|skip))|refine wr ?_|refine ix ?_|refine ati ?_|refine row ?_|refine app ?_|refine dr ?_|refine VAnd.mk ?_ ?_|exact VJe.mk rfl ⟨rfl,rfl⟩|refine .inl (slM ?_)|refine .inl (slO ?_)|refine slM ?_|refine slO ?_|refine slN ?_|refine slS ?_|refine swB (swM fun C hC=>?_)|refine sj ?_|refine .inl (sv ?_)|refine sv ?_|refine cl ?_|refine s3 ?_|refine az ?_|refine rm ?_|refine VBs.own ?_|refine cf q1 ?_|refine cg q1 ?_|refine cz q1 ?_|refine cf q2 ?_|refine cg q2 ?_|refine cz q2 ?_|fail)<;>(try conv=>whnf))
          all_goals exact VRd.mk rfl ⟨nn - (i + 1), by omega, i + 1, Z, Q, Q', by rw [hd] <;> rfl, by rw [f1] <;> rfl, by omega, rfl, by rw [g1]; exact hZ, hpm, hO⟩
    · obtain rfl : i = nn := by omega
      rw [hPn] at hZ
      cases hd : decide ((S j).2.length < (P i).2.length)
      · have hle := of_decide_eq_false hd
        have heq : (passS L (S j)).2.length = (S j).2.length := by have := hPl i; rw [← hSj, ← hPn]; omega
        have hno := passS_some heq
        have hsame := passS_none hno
        rw [← hSj] at hsame
        (try conv=>whnf)<;>repeat'((first|exact sNo|refine sT ?_|refine sF ?_|((first|refine sD ?_ ?_|refine sE ?_ ?_|refine sN ?_ ?_|refine sG ?_ ?_)<;>intro ht<;>(first|(cases ht;done)|skip))|refine wr ?_|refine ix ?_|refine ati ?_|refine row ?_|refine app ?_|refine dr ?_|refine VAnd.mk ?_ ?_|exact VJe.mk rfl ⟨rfl,rfl⟩|refine .inl (slM ?_)|refine .inl (slO ?_)|refine slM ?_|refine slO ?_|refine slN ?_|refine slS ?_|refine swB (swM fun C hC=>?_)|refine sj ?_|refine .inl (sv ?_)|refine sv ?_|refine cl ?_|refine s3 ?_|refine az ?_|refine rm ?_|refine VBs.own ?_|fail)<;>(try conv=>whnf))
        all_goals exact VRd.mk rfl ⟨2 * pend L (S (j + 1)).1, by rw [hsame]; show _ < _ + 1; omega, j + 1, false, Z, Q, Q', rfl, by rw [hPn] <;> rfl, fun _ => by rw [hsame]; exact hno, rfl, hZ, hpm, hO⟩
      · have hlt := of_decide_eq_true hd
        have hpd := passS_pend hR (L0 := L) (L := L) (s := S j) (fun x hx => hx) (by rw [← hSj, ← hPn]; omega)
        rw [← hSj] at hpd
        (try conv=>whnf)<;>repeat'((first|exact sNo|refine sT ?_|refine sF ?_|((first|refine sD ?_ ?_|refine sE ?_ ?_|refine sN ?_ ?_|refine sG ?_ ?_)<;>intro ht<;>(first|(cases ht;done)|skip))|refine wr ?_|refine ix ?_|refine ati ?_|refine row ?_|refine app ?_|refine dr ?_|refine VAnd.mk ?_ ?_|exact VJe.mk rfl ⟨rfl,rfl⟩|refine .inl (slM ?_)|refine .inl (slO ?_)|refine slM ?_|refine slO ?_|refine slN ?_|refine slS ?_|refine swB (swM fun C hC=>?_)|refine sj ?_|refine .inl (sv ?_)|refine sv ?_|refine cl ?_|refine s3 ?_|refine az ?_|refine rm ?_|refine VBs.own ?_|fail)<;>(try conv=>whnf))
        all_goals exact VRd.mk rfl ⟨2 * pend L (S (j + 1)).1 + 1, by show _ < _ + 1; omega, j + 1, true, Z, Q, Q', rfl, by rw [hPn] <;> rfl, fun h => (by cases h), rfl, hZ, hpm, hO⟩
end Go.Proofs.YtlghgdgpbnlpmaaGreat
