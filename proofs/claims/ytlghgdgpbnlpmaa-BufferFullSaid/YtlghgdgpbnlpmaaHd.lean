/- What is proved: what a buffer sends. Conditions: none. -/
import Derived.Test.YtlghgdgpbnlpmaaHc
namespace Go.Proofs.Ytlghgdgpbnlpmaa
open Go.RowKit
set_option linter.unusedVariables false
set_option linter.unusedSimpArgs false
set_option maxRecDepth 100000
set_option maxHeartbeats 100000000
attribute [local irreducible] AFnP AFn AFnR
theorem batl_a (u v : Int → Int) : AFnP Try.prog 45 [vecE u, vecE v] (.bool (atMost v u)) := by
  refine afnp_in ty_ok Try.call45 Try.func45 rfl rfl (by decide +kernel) ?_
  (try conv=>whnf)<;>repeat'((first|exact sNo|refine sT ?_|refine sF ?_|((first|refine sD ?_ ?_|refine sE ?_ ?_|refine sN ?_ ?_|refine sG ?_ ?_)<;>intro ht<;>(first|(cases ht;done)|skip))|refine wr ?_|refine ix ?_|refine ati ?_|refine row ?_|refine app ?_|refine dr ?_|refine VAnd.mk ?_ ?_|exact VJe.mk rfl ⟨rfl,rfl⟩|refine .inl (slM ?_)|refine .inl (slO ?_)|refine slM ?_|refine slO ?_|refine slN ?_|refine slS ?_|refine swB (swM fun C hC=>?_)|refine sj ?_|refine .inl (sv ?_)|refine sv ?_|refine cl ?_|refine s3 ?_|refine az ?_|refine rm ?_|refine VBs.own ?_|fail)<;>(try conv=>whnf))
  refine VLp.mk ⟨[], [2, 3], [6], fun k vs h => (vs = [i64 0] ∧ h = [.blk 0 [i64 (u 0), i64 (u 1), i64 (u 2), i64 (u 3)] 30, .blk 1 [i64 (v 0), i64 (v 1), i64 (v 2), i64 (v 3)] 30] ∧ k = 4) ∨ (vs = [i64 1] ∧ h = [.blk 0 [i64 (u 0), i64 (u 1), i64 (u 2), i64 (u 3)] 30, .blk 1 [i64 (v 0), i64 (v 1), i64 (v 2), i64 (v 3)] 30] ∧ v 0 ≤ u 0 ∧ k = 3) ∨ (vs = [i64 2] ∧ h = [.blk 0 [i64 (u 0), i64 (u 1), i64 (u 2), i64 (u 3)] 30, .blk 1 [i64 (v 0), i64 (v 1), i64 (v 2), i64 (v 3)] 30] ∧ v 0 ≤ u 0 ∧ v 1 ≤ u 1 ∧ k = 2) ∨ (vs = [i64 3] ∧ h = [.blk 0 [i64 (u 0), i64 (u 1), i64 (u 2), i64 (u 3)] 30, .blk 1 [i64 (v 0), i64 (v 1), i64 (v 2), i64 (v 3)] 30] ∧ v 0 ≤ u 0 ∧ v 1 ≤ u 1 ∧ v 2 ≤ u 2 ∧ k = 1) ∨ (vs = [i64 4] ∧ h = [.blk 0 [i64 (u 0), i64 (u 1), i64 (u 2), i64 (u 3)] 30, .blk 1 [i64 (v 0), i64 (v 1), i64 (v 2), i64 (v 3)] 30] ∧ v 0 ≤ u 0 ∧ v 1 ≤ u 1 ∧ v 2 ≤ u 2 ∧ v 3 ≤ u 3 ∧ k = 0), 4, ?_⟩
  conv => whnf
  refine ⟨.inl ⟨rfl, rfl, rfl⟩, ?_⟩
  rintro k vs h (⟨rfl, rfl, rfl⟩ | ⟨rfl, rfl, h0, rfl⟩ | ⟨rfl, rfl, h0, h1, rfl⟩ | ⟨rfl, rfl, h0, h1, h2, rfl⟩ | ⟨rfl, rfl, h0, h1, h2, h3, rfl⟩)
  · by_cases h0 : v 0 ≤ u 0
    · (try conv=>whnf)<;>repeat'((first|exact sNo|refine sT ?_|refine sF ?_|((first|refine sD ?_ ?_|refine sE ?_ ?_|refine sN ?_ ?_|refine sG ?_ ?_)<;>intro ht<;>(first|(cases ht;done)|skip))|refine wr ?_|refine ix ?_|refine ati ?_|refine row ?_|refine app ?_|refine dr ?_|refine VAnd.mk ?_ ?_|exact VJe.mk rfl ⟨rfl,rfl⟩|refine .inl (slM ?_)|refine .inl (slO ?_)|refine slM ?_|refine slO ?_|refine slN ?_|refine slS ?_|refine swB (swM fun C hC=>?_)|refine sj ?_|refine .inl (sv ?_)|refine sv ?_|refine cl ?_|refine s3 ?_|refine az ?_|refine rm ?_|refine VBs.own ?_|fail)<;>(try conv=>whnf))
      all_goals exact VRd.mk rfl ⟨3, by omega, .inr (.inl (⟨rfl, rfl, h0, rfl⟩))⟩
    · (try conv=>whnf)<;>repeat'((first|exact sNo|refine sT ?_|refine sF ?_|((first|refine sD ?_ ?_|refine sE ?_ ?_|refine sN ?_ ?_|refine sG ?_ ?_)<;>intro ht<;>(first|(cases ht;done)|skip))|refine wr ?_|refine ix ?_|refine ati ?_|refine row ?_|refine app ?_|refine dr ?_|refine VAnd.mk ?_ ?_|exact VJe.mk rfl ⟨rfl,rfl⟩|refine .inl (slM ?_)|refine .inl (slO ?_)|refine slM ?_|refine slO ?_|refine slN ?_|refine slS ?_|refine swB (swM fun C hC=>?_)|refine sj ?_|refine .inl (sv ?_)|refine sv ?_|refine cl ?_|refine s3 ?_|refine az ?_|refine rm ?_|refine VBs.own ?_|fail)<;>(try conv=>whnf))
      all_goals exact congrArg AV.bool (atMost_no (v := v) (w := u) (d := 0) (by omega) (by omega) h0).symm
  · by_cases h1 : v 1 ≤ u 1
    · (try conv=>whnf)<;>repeat'((first|exact sNo|refine sT ?_|refine sF ?_|((first|refine sD ?_ ?_|refine sE ?_ ?_|refine sN ?_ ?_|refine sG ?_ ?_)<;>intro ht<;>(first|(cases ht;done)|skip))|refine wr ?_|refine ix ?_|refine ati ?_|refine row ?_|refine app ?_|refine dr ?_|refine VAnd.mk ?_ ?_|exact VJe.mk rfl ⟨rfl,rfl⟩|refine .inl (slM ?_)|refine .inl (slO ?_)|refine slM ?_|refine slO ?_|refine slN ?_|refine slS ?_|refine swB (swM fun C hC=>?_)|refine sj ?_|refine .inl (sv ?_)|refine sv ?_|refine cl ?_|refine s3 ?_|refine az ?_|refine rm ?_|refine VBs.own ?_|fail)<;>(try conv=>whnf))
      all_goals exact VRd.mk rfl ⟨2, by omega, .inr (.inr (.inl (⟨rfl, rfl, h0, h1, rfl⟩)))⟩
    · (try conv=>whnf)<;>repeat'((first|exact sNo|refine sT ?_|refine sF ?_|((first|refine sD ?_ ?_|refine sE ?_ ?_|refine sN ?_ ?_|refine sG ?_ ?_)<;>intro ht<;>(first|(cases ht;done)|skip))|refine wr ?_|refine ix ?_|refine ati ?_|refine row ?_|refine app ?_|refine dr ?_|refine VAnd.mk ?_ ?_|exact VJe.mk rfl ⟨rfl,rfl⟩|refine .inl (slM ?_)|refine .inl (slO ?_)|refine slM ?_|refine slO ?_|refine slN ?_|refine slS ?_|refine swB (swM fun C hC=>?_)|refine sj ?_|refine .inl (sv ?_)|refine sv ?_|refine cl ?_|refine s3 ?_|refine az ?_|refine rm ?_|refine VBs.own ?_|fail)<;>(try conv=>whnf))
      all_goals exact congrArg AV.bool (atMost_no (v := v) (w := u) (d := 1) (by omega) (by omega) h1).symm
  · by_cases h2 : v 2 ≤ u 2
    · (try conv=>whnf)<;>repeat'((first|exact sNo|refine sT ?_|refine sF ?_|((first|refine sD ?_ ?_|refine sE ?_ ?_|refine sN ?_ ?_|refine sG ?_ ?_)<;>intro ht<;>(first|(cases ht;done)|skip))|refine wr ?_|refine ix ?_|refine ati ?_|refine row ?_|refine app ?_|refine dr ?_|refine VAnd.mk ?_ ?_|exact VJe.mk rfl ⟨rfl,rfl⟩|refine .inl (slM ?_)|refine .inl (slO ?_)|refine slM ?_|refine slO ?_|refine slN ?_|refine slS ?_|refine swB (swM fun C hC=>?_)|refine sj ?_|refine .inl (sv ?_)|refine sv ?_|refine cl ?_|refine s3 ?_|refine az ?_|refine rm ?_|refine VBs.own ?_|fail)<;>(try conv=>whnf))
      all_goals exact VRd.mk rfl ⟨1, by omega, .inr (.inr (.inr (.inl (⟨rfl, rfl, h0, h1, h2, rfl⟩))))⟩
    · (try conv=>whnf)<;>repeat'((first|exact sNo|refine sT ?_|refine sF ?_|((first|refine sD ?_ ?_|refine sE ?_ ?_|refine sN ?_ ?_|refine sG ?_ ?_)<;>intro ht<;>(first|(cases ht;done)|skip))|refine wr ?_|refine ix ?_|refine ati ?_|refine row ?_|refine app ?_|refine dr ?_|refine VAnd.mk ?_ ?_|exact VJe.mk rfl ⟨rfl,rfl⟩|refine .inl (slM ?_)|refine .inl (slO ?_)|refine slM ?_|refine slO ?_|refine slN ?_|refine slS ?_|refine swB (swM fun C hC=>?_)|refine sj ?_|refine .inl (sv ?_)|refine sv ?_|refine cl ?_|refine s3 ?_|refine az ?_|refine rm ?_|refine VBs.own ?_|fail)<;>(try conv=>whnf))
      all_goals exact congrArg AV.bool (atMost_no (v := v) (w := u) (d := 2) (by omega) (by omega) h2).symm
  · by_cases h3 : v 3 ≤ u 3
    · (try conv=>whnf)<;>repeat'((first|exact sNo|refine sT ?_|refine sF ?_|((first|refine sD ?_ ?_|refine sE ?_ ?_|refine sN ?_ ?_|refine sG ?_ ?_)<;>intro ht<;>(first|(cases ht;done)|skip))|refine wr ?_|refine ix ?_|refine ati ?_|refine row ?_|refine app ?_|refine dr ?_|refine VAnd.mk ?_ ?_|exact VJe.mk rfl ⟨rfl,rfl⟩|refine .inl (slM ?_)|refine .inl (slO ?_)|refine slM ?_|refine slO ?_|refine slN ?_|refine slS ?_|refine swB (swM fun C hC=>?_)|refine sj ?_|refine .inl (sv ?_)|refine sv ?_|refine cl ?_|refine s3 ?_|refine az ?_|refine rm ?_|refine VBs.own ?_|fail)<;>(try conv=>whnf))
      all_goals exact VRd.mk rfl ⟨0, by omega, .inr (.inr (.inr (.inr (⟨rfl, rfl, h0, h1, h2, h3, rfl⟩))))⟩
    · (try conv=>whnf)<;>repeat'((first|exact sNo|refine sT ?_|refine sF ?_|((first|refine sD ?_ ?_|refine sE ?_ ?_|refine sN ?_ ?_|refine sG ?_ ?_)<;>intro ht<;>(first|(cases ht;done)|skip))|refine wr ?_|refine ix ?_|refine ati ?_|refine row ?_|refine app ?_|refine dr ?_|refine VAnd.mk ?_ ?_|exact VJe.mk rfl ⟨rfl,rfl⟩|refine .inl (slM ?_)|refine .inl (slO ?_)|refine slM ?_|refine slO ?_|refine slN ?_|refine slS ?_|refine swB (swM fun C hC=>?_)|refine sj ?_|refine .inl (sv ?_)|refine sv ?_|refine cl ?_|refine s3 ?_|refine az ?_|refine rm ?_|refine VBs.own ?_|fail)<;>(try conv=>whnf))
      all_goals exact congrArg AV.bool (atMost_no (v := v) (w := u) (d := 3) (by omega) (by omega) h3).symm
  · (try conv=>whnf)<;>repeat'((first|exact sNo|refine sT ?_|refine sF ?_|((first|refine sD ?_ ?_|refine sE ?_ ?_|refine sN ?_ ?_|refine sG ?_ ?_)<;>intro ht<;>(first|(cases ht;done)|skip))|refine wr ?_|refine ix ?_|refine ati ?_|refine row ?_|refine app ?_|refine dr ?_|refine VAnd.mk ?_ ?_|exact VJe.mk rfl ⟨rfl,rfl⟩|refine .inl (slM ?_)|refine .inl (slO ?_)|refine slM ?_|refine slO ?_|refine slN ?_|refine slS ?_|refine swB (swM fun C hC=>?_)|refine sj ?_|refine .inl (sv ?_)|refine sv ?_|refine cl ?_|refine s3 ?_|refine az ?_|refine rm ?_|refine VBs.own ?_|fail)<;>(try conv=>whnf))
    all_goals exact congrArg AV.bool (atMost_iff.2 (four h0 h1 h2 h3)).symm
/-- what is sent: which bundles, whether all of a vector is known then, which error -/
def forS (b : Buf) (n : Int) : SS := iterS (b.m.map (·.2)) b.m.length (b.has n, [])
def forOk (b : Buf) (n : Int) (v : Int → Int) (q : Int) : Bool := peerB b n && mayV v && decide (1 ≤ q ∧ q ≤ 64)
theorem take_grow {o : List Bun} {q : Nat} (h : o.length < q) (b : Bun) : (o.take q).map bunE ++ [bunE b] = ((o ++ [b]).take q).map bunE := by
  rw [List.take_of_length_le (by omega), List.take_of_length_le (by simp; omega), List.map_append]
  rfl
theorem take_stay {o : List Bun} {q : Nat} (h : q ≤ o.length) (b : Bun) : (o ++ [b]).take q = o.take q := by rw [List.take_append_of_le_length h]
theorem iter_zero (L : List Bun) (s : SS) : iterS L 0 s = s := rfl
theorem iter_succ (L : List Bun) (s : SS) (j : Nat) : iterS L (j + 1) s = passS L (iterS L j s) := rfl
theorem bfor_o (b : Buf) (n : Int) (v : Int → Int) (q : Int) (hB : BI b) (hc : b.cn ≤ 4) (h : forOk b n v q = true) : AFn Try.prog 28 [.op 0 0, i64 n, vecE v, i64 q] [bufP 0 b] (fun r h' => r = .tup [.own 1 ((forS b n).2.take q.toNat).length, .bool (atMost v (forS b n).1), i64 0] ∧ h' = [bufP 0 b, .row 1 46 10 (((forS b n).2.take q.toNat).map bunE)]) := by
  refine afn_in ty_ok Try.call28 Try.func28 rfl rfl (by decide +kernel) ?_
  unfold forOk at h
  rw [Bool.and_eq_true, Bool.and_eq_true, decide_eq_true_eq] at h
  obtain ⟨⟨hp, hv⟩, hq1, hq2⟩ := h
  obtain ⟨q', hq'⟩ : ∃ q' : Nat, q = (q' : Int) := ⟨q.toNat, (Int.toNat_of_nonneg (by omega)).symm⟩
  subst hq'
  rw [Int.toNat_natCast]
  have r1 := bpeer_p hp
  have r2 := bvec_p hv
  have hlen := hB.len
  have r3 := allB_a b.m (by omega)
  obtain ⟨F, hF⟩ : ∃ F : SS, F = forS b n := ⟨_, rfl⟩
  rw [← hF]
  obtain ⟨S, hS⟩ : ∃ S : Nat → SS, ∀ j, S j = iterS (b.m.map (·.2)) j (b.has n, []) := ⟨_, fun _ => rfl⟩
  have hR : ∀ x ∈ b.m.map (·.2), rightB x = true := fun x hx => by
    obtain ⟨p, hp, rfl⟩ := List.mem_map.1 hx
    exact (hB.ok p hp).1
  have hSm : ∀ i (hi : i < b.m.length), SmB b.m[i].2 := fun i hi => (hB.ok _ (List.getElem_mem hi)).2
  have hRi : ∀ i (hi : i < b.m.length), rightB b.m[i].2 = true := fun i hi => (hB.ok _ (List.getElem_mem hi)).1
  have hend : ∀ j, noneS (b.m.map (·.2)) (S j).1 → F = S j := fun j hj => by
    rw [hS] at hj
    rw [hF, forS, hS, iterS_same hR hj, List.length_map]
  have hrow := fun i (h : i < b.m.length) => m_row (m := b.m) h
  have hS0 : S 0 = (b.has n, []) := by rw [hS, iter_zero]
  have hSs : ∀ j, S (j + 1) = passS (b.m.map (·.2)) (S j) := fun j => by rw [hS, hS, iter_succ]
  have hLl : (b.m.map (·.2)).length = b.m.length := List.length_map ..
  have hLg : ∀ i (hi : i < b.m.length), (b.m.map (·.2))[i]'(by rw [hLl]; exact hi) = b.m[i].2 := fun i hi => List.getElem_map ..
  have hp4 := peer_four hc hp
  clear hF hS hB
  unfold bufP bufE at *
  unfold lstE at *
  generalize hm : b.m = m at *
  clear hm
  generalize m.map prB = R at *
  generalize hL : m.map (·.2) = L at *
  obtain ⟨nn, hnn⟩ : ∃ nn, m.length = nn := ⟨_, rfl⟩
  rw [hnn] at r1 r3 hlen ⊢
  rcases hp4 with ⟨hn', hn⟩ | ⟨hn', hn⟩ | ⟨hn', hn⟩ | ⟨hn', hn⟩
  all_goals
    rw [hn'] at hS0
    have e0 := congrArg Prod.fst hS0
    dsimp only at e0
    have e1 := congrArg Prod.snd hS0
    dsimp only at e1
    (try conv=>whnf)<;>repeat'((first|exact sNo|refine sT ?_|refine sF ?_|((first|refine sD ?_ ?_|refine sE ?_ ?_|refine sN ?_ ?_|refine sG ?_ ?_)<;>intro ht<;>(first|(cases ht;done)|skip))|refine wr ?_|refine ix ?_|refine ati ?_|refine row ?_|refine app ?_|refine dr ?_|refine VAnd.mk ?_ ?_|exact VJe.mk rfl ⟨rfl,rfl⟩|refine .inl (slM ?_)|refine .inl (slO ?_)|refine slM ?_|refine slO ?_|refine slN ?_|refine slS ?_|refine swB (swM fun C hC=>?_)|refine sj ?_|refine .inl (sv ?_)|refine sv ?_|refine cl ?_|refine s3 ?_|refine az ?_|refine rm ?_|refine VBs.own ?_|refine cf r1 ?_|refine cg r1 ?_|refine cz r1 ?_|refine cf r2 ?_|refine cg r2 ?_|refine cz r2 ?_|fail)<;>(try conv=>whnf))
    refine VLp.mk ⟨[.slot 12 46 10], [6, 11], [12, 13], fun k vs h => ∃ (j : Nat) (t : Bool), vs = [.own 3 ((S j).2.take q').length, .bool t] ∧ h = [.blk 0 [i64 b.self, i64 b.cn, .lst nn R, i64 b.last, i64 (b.has 0 0), i64 (b.has 0 1), i64 (b.has 0 2), i64 (b.has 0 3), i64 (b.has 1 0), i64 (b.has 1 1), i64 (b.has 1 2), i64 (b.has 1 3), i64 (b.has 2 0), i64 (b.has 2 1), i64 (b.has 2 2), i64 (b.has 2 3), i64 (b.has 3 0), i64 (b.has 3 1), i64 (b.has 3 2), i64 (b.has 3 3)] 77, .blk 1 [i64 (v 0), i64 (v 1), i64 (v 2), i64 (v 3)] 30, .blk 2 [i64 ((S j).1 0), i64 ((S j).1 1), i64 ((S j).1 2), i64 ((S j).1 3)] 30, .row 3 46 10 (((S j).2.take q').map bunE)] ∧ (t = false → noneS L (S j).1) ∧ k = 2 * pend L (S j).1 + t.toNat, 2 * pend L (S 0).1 + 1, ?_⟩
    conv => whnf
    refine ⟨⟨0, true, by rw [e1, List.take_nil] <;> rfl, by rw [e0, e1, List.take_nil] <;> rfl, fun h => (by cases h), rfl⟩, ?_⟩
    rintro k vs h ⟨j, t, rfl, rfl, ht0, rfl⟩
    have hne := hend j
    cases t
    · have hx := hne (ht0 rfl)
      subst hx
      have r4 := batl_a (S j).1 v
      generalize S j = s at *
      generalize atMost v s.1 = t at *
      cases t
      all_goals (try conv=>whnf)<;>repeat'((first|exact sNo|refine sT ?_|refine sF ?_|((first|refine sD ?_ ?_|refine sE ?_ ?_|refine sN ?_ ?_|refine sG ?_ ?_)<;>intro ht<;>(first|(cases ht;done)|skip))|refine wr ?_|refine ix ?_|refine ati ?_|refine row ?_|refine app ?_|refine dr ?_|refine VAnd.mk ?_ ?_|exact VJe.mk rfl ⟨rfl,rfl⟩|refine .inl (slM ?_)|refine .inl (slO ?_)|refine slM ?_|refine slO ?_|refine slN ?_|refine slS ?_|refine swB (swM fun C hC=>?_)|refine sj ?_|refine .inl (sv ?_)|refine sv ?_|refine cl ?_|refine s3 ?_|refine az ?_|refine rm ?_|refine VBs.own ?_|refine cf r4 ?_|refine cg r4 ?_|refine cz r4 ?_|fail)<;>(try conv=>whnf))
      all_goals exact VRt.mk rfl ⟨rfl, rfl⟩
    · clear ht0
      have hSj := hSs j
      obtain ⟨P, hP⟩ : ∃ P : Nat → SS, ∀ i, P i = passS (L.take i) (S j) := ⟨_, fun _ => rfl⟩
      have hP0 : P 0 = S j := by rw [hP, List.take_zero] <;> rfl
      have hPs : ∀ i (hi : i < m.length), P (i + 1) = stepS (P i) m[i].2 := fun i hi => by
        rw [hP, hP, passS_take (by omega), hLg i (by omega)]
      have hPn : P nn = S (j + 1) := by rw [hSj, hP, List.take_of_length_le (by omega)]
      have hPl : ∀ i, (S j).2.length ≤ (P i).2.length := fun i => by rw [hP]; exact passS_len _ _
      (try conv=>whnf)<;>repeat'((first|exact sNo|refine sT ?_|refine sF ?_|((first|refine sD ?_ ?_|refine sE ?_ ?_|refine sN ?_ ?_|refine sG ?_ ?_)<;>intro ht<;>(first|(cases ht;done)|skip))|refine wr ?_|refine ix ?_|refine ati ?_|refine row ?_|refine app ?_|refine dr ?_|refine VAnd.mk ?_ ?_|exact VJe.mk rfl ⟨rfl,rfl⟩|refine .inl (slM ?_)|refine .inl (slO ?_)|refine slM ?_|refine slO ?_|refine slN ?_|refine slS ?_|refine swB (swM fun C hC=>?_)|refine sj ?_|refine .inl (sv ?_)|refine sv ?_|refine cl ?_|refine s3 ?_|refine az ?_|refine rm ?_|refine VBs.own ?_|refine cf r3 ?_|refine cg r3 ?_|refine cz r3 ?_|fail)<;>(try conv=>whnf))
      refine VLp.mk ⟨[], [6, 11], [12, 13, 46], fun k vs h => ∃ i : Nat, vs = [.own 3 ((P i).2.take q').length, .bool (decide ((S j).2.length < (P i).2.length)), i64 i] ∧ h = [.blk 0 [i64 b.self, i64 b.cn, .lst nn R, i64 b.last, i64 (b.has 0 0), i64 (b.has 0 1), i64 (b.has 0 2), i64 (b.has 0 3), i64 (b.has 1 0), i64 (b.has 1 1), i64 (b.has 1 2), i64 (b.has 1 3), i64 (b.has 2 0), i64 (b.has 2 1), i64 (b.has 2 2), i64 (b.has 2 3), i64 (b.has 3 0), i64 (b.has 3 1), i64 (b.has 3 2), i64 (b.has 3 3)] 77, .blk 1 [i64 (v 0), i64 (v 1), i64 (v 2), i64 (v 3)] 30, .blk 2 [i64 ((P i).1 0), i64 ((P i).1 1), i64 ((P i).1 2), i64 ((P i).1 3)] 30, .row 3 46 10 (((P i).2.take q').map bunE)] ∧ i ≤ nn ∧ k = nn - i, nn, ?_⟩
      conv => whnf
      refine ⟨⟨0, by rw [hP0, decide_eq_false (Nat.lt_irrefl _)] <;> rfl, by rw [hP0], by omega, by omega⟩, ?_⟩
      rintro k vs h ⟨i, rfl, rfl, hi, rfl⟩
      by_cases hin : i < nn
      · have hri := hrow i (by omega)
        have hsi := hSm i (by omega)
        have hrr := hRi i (by omega)
        have hst := hPs i (by omega)
        have hl := hPl i
        generalize m[i].2 = x at *
        cases hk : readyB x (P i).1
        · have q1 := bready_p hsi hk
          rw [stepS_no hk] at hst
          (try conv=>whnf)<;>repeat'((first|exact sNo|refine sT ?_|refine sF ?_|((first|refine sD ?_ ?_|refine sE ?_ ?_|refine sN ?_ ?_|refine sG ?_ ?_)<;>intro ht<;>(first|(cases ht;done)|skip))|refine wr ?_|refine ix ?_|refine ati ?_|refine row ?_|refine app ?_|refine dr ?_|refine VAnd.mk ?_ ?_|exact VJe.mk rfl ⟨rfl,rfl⟩|refine .inl (slM ?_)|refine .inl (slO ?_)|refine slM ?_|refine slO ?_|refine slN ?_|refine slS ?_|refine swB (swM fun C hC=>?_)|refine sj ?_|refine .inl (sv ?_)|refine sv ?_|refine cl ?_|refine s3 ?_|refine az ?_|refine rm ?_|refine VBs.own ?_|refine cf q1 ?_|refine cg q1 ?_|refine cz q1 ?_|fail)<;>(try conv=>whnf))
          all_goals exact VRd.mk rfl ⟨nn - (i + 1), by omega, i + 1, by rw [hst] <;> rfl, by rw [hst], by omega, rfl⟩
        · have q1 := bready_p hsi hk
          have q2 := bbehind_a x hsi hrr (P i).1
          have q3 := bclone_t x hsi hrr
          rw [stepS_yes hk] at hst
          have f1 := congrArg Prod.fst hst
          have f2 := congrArg Prod.snd hst
          dsimp only at f1 f2
          have hd : decide ((S j).2.length < (P (i + 1)).2.length) = true := by
            rw [f2]
            exact decide_eq_true (by simp; omega)
          have hN : ((P i).2.take q').length = min q' (P i).2.length := List.length_take ..
          by_cases hlt : (P i).2.length < q'
          · have g1 := take_grow hlt x
            rw [← f2] at g1
            have g2 : ((P (i + 1)).2.take q').length = ((P i).2.take q').length + 1 := by rw [List.length_take, f2, List.length_append, List.length_singleton, hN]; omega
            (try conv=>whnf)<;>repeat'((first|exact sNo|refine sT ?_|refine sF ?_|((first|refine sD ?_ ?_|refine sE ?_ ?_|refine sN ?_ ?_|refine sG ?_ ?_)<;>intro ht<;>(first|(cases ht;done)|skip))|refine wr ?_|refine ix ?_|refine ati ?_|refine row ?_|refine app ?_|refine dr ?_|refine VAnd.mk ?_ ?_|exact VJe.mk rfl ⟨rfl,rfl⟩|refine .inl (slM ?_)|refine .inl (slO ?_)|refine slM ?_|refine slO ?_|refine slN ?_|refine slS ?_|refine swB (swM fun C hC=>?_)|refine sj ?_|refine .inl (sv ?_)|refine sv ?_|refine cl ?_|refine s3 ?_|refine az ?_|refine rm ?_|refine VBs.own ?_|refine cf q1 ?_|refine cg q1 ?_|refine cz q1 ?_|refine cf q2 ?_|refine cg q2 ?_|refine cz q2 ?_|refine cf q3 ?_|refine cg q3 ?_|refine cz q3 ?_|fail)<;>(try conv=>whnf))
            all_goals exact VRd.mk rfl ⟨nn - (i + 1), by omega, i + 1, by rw [g2, hd] <;> rfl, by rw [f1, ← g1] <;> rfl, by omega, rfl⟩
          · have g1 := take_stay (q := q') (o := (P i).2) (by omega) x
            rw [← f2] at g1
            (try conv=>whnf)<;>repeat'((first|exact sNo|refine sT ?_|refine sF ?_|((first|refine sD ?_ ?_|refine sE ?_ ?_|refine sN ?_ ?_|refine sG ?_ ?_)<;>intro ht<;>(first|(cases ht;done)|skip))|refine wr ?_|refine ix ?_|refine ati ?_|refine row ?_|refine app ?_|refine dr ?_|refine VAnd.mk ?_ ?_|exact VJe.mk rfl ⟨rfl,rfl⟩|refine .inl (slM ?_)|refine .inl (slO ?_)|refine slM ?_|refine slO ?_|refine slN ?_|refine slS ?_|refine swB (swM fun C hC=>?_)|refine sj ?_|refine .inl (sv ?_)|refine sv ?_|refine cl ?_|refine s3 ?_|refine az ?_|refine rm ?_|refine VBs.own ?_|refine cf q1 ?_|refine cg q1 ?_|refine cz q1 ?_|refine cf q2 ?_|refine cg q2 ?_|refine cz q2 ?_|refine cf q3 ?_|refine cg q3 ?_|refine cz q3 ?_|fail)<;>(try conv=>whnf))
            all_goals exact VRd.mk rfl ⟨nn - (i + 1), by omega, i + 1, by rw [g1, hd] <;> rfl, by rw [f1, g1] <;> rfl, by omega, rfl⟩
      · obtain rfl : i = nn := by omega
        cases hd : decide ((S j).2.length < (P i).2.length)
        · have hle := of_decide_eq_false hd
          have heq : (passS L (S j)).2.length = (S j).2.length := by have := hPl i; rw [← hSj, ← hPn]; omega
          have hno := passS_some heq
          have hsame := passS_none hno
          rw [← hSj] at hsame
          (try conv=>whnf)<;>repeat'((first|exact sNo|refine sT ?_|refine sF ?_|((first|refine sD ?_ ?_|refine sE ?_ ?_|refine sN ?_ ?_|refine sG ?_ ?_)<;>intro ht<;>(first|(cases ht;done)|skip))|refine wr ?_|refine ix ?_|refine ati ?_|refine row ?_|refine app ?_|refine dr ?_|refine VAnd.mk ?_ ?_|exact VJe.mk rfl ⟨rfl,rfl⟩|refine .inl (slM ?_)|refine .inl (slO ?_)|refine slM ?_|refine slO ?_|refine slN ?_|refine slS ?_|refine swB (swM fun C hC=>?_)|refine sj ?_|refine .inl (sv ?_)|refine sv ?_|refine cl ?_|refine s3 ?_|refine az ?_|refine rm ?_|refine VBs.own ?_|fail)<;>(try conv=>whnf))
          all_goals exact VRd.mk rfl ⟨2 * pend L (S (j + 1)).1, by rw [hsame]; show _ < _ + 1; omega, j + 1, false, by rw [hPn] <;> rfl, by rw [hPn], fun _ => by rw [hsame]; exact hno, rfl⟩
        · have hlt := of_decide_eq_true hd
          have hpd := passS_pend hR (L0 := L) (L := L) (s := S j) (fun x hx => hx) (by rw [← hSj, ← hPn]; omega)
          rw [← hSj] at hpd
          (try conv=>whnf)<;>repeat'((first|exact sNo|refine sT ?_|refine sF ?_|((first|refine sD ?_ ?_|refine sE ?_ ?_|refine sN ?_ ?_|refine sG ?_ ?_)<;>intro ht<;>(first|(cases ht;done)|skip))|refine wr ?_|refine ix ?_|refine ati ?_|refine row ?_|refine app ?_|refine dr ?_|refine VAnd.mk ?_ ?_|exact VJe.mk rfl ⟨rfl,rfl⟩|refine .inl (slM ?_)|refine .inl (slO ?_)|refine slM ?_|refine slO ?_|refine slN ?_|refine slS ?_|refine swB (swM fun C hC=>?_)|refine sj ?_|refine .inl (sv ?_)|refine sv ?_|refine cl ?_|refine s3 ?_|refine az ?_|refine rm ?_|refine VBs.own ?_|fail)<;>(try conv=>whnf))
          all_goals exact VRd.mk rfl ⟨2 * pend L (S (j + 1)).1 + 1, by show _ < _ + 1; omega, j + 1, true, by rw [hPn] <;> rfl, by rw [hPn], fun h => (by cases h), rfl⟩
end Go.Proofs.Ytlghgdgpbnlpmaa
