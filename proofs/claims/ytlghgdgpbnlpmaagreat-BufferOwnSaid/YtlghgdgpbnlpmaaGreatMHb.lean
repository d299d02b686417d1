/- What is proved: what a buffer sends. Conditions: none. -/
import Derived.Test.YtlghgdgpbnlpmaaGreatMHa
namespace Go.Proofs.YtlghgdgpbnlpmaaGreat
open Go.RowKit
set_option linter.unusedVariables false
set_option linter.unusedSimpArgs false
set_option maxRecDepth 100000
set_option maxHeartbeats 100000000
attribute [local irreducible] AFnP AFn AFnR
theorem batl_a (u v : Int → Int) : AFnP Tryz.prog 76 [vecE u, vecE v] (.bool (atMost v u)) := by
  refine afnp_in ty_ok Tryz.call76 Tryz.func76 rfl rfl (by decide +kernel) ?_
  (try conv=>whnf)<;>repeat'((first|exact sNo|refine sT ?_|refine sF ?_|((first|refine sD ?_ ?_|refine sE ?_ ?_|refine sN ?_ ?_|refine sG ?_ ?_)<;>intro ht<;>(first|(cases ht;done)|skip))|refine wr ?_|refine ix ?_|refine ati ?_|refine row ?_|refine app ?_|refine dr ?_|refine VBs.own ?_|fail)<;>(try conv=>whnf))
  refine VLp.mk ⟨[], [2, 3], [6], fun k vs h => (vs = [i64 0] ∧ h = [.blk 0 [i64 (u 0), i64 (u 1), i64 (u 2), i64 (u 3)] 33, .blk 1 [i64 (v 0), i64 (v 1), i64 (v 2), i64 (v 3)] 33] ∧ k = 4) ∨ (vs = [i64 1] ∧ h = [.blk 0 [i64 (u 0), i64 (u 1), i64 (u 2), i64 (u 3)] 33, .blk 1 [i64 (v 0), i64 (v 1), i64 (v 2), i64 (v 3)] 33] ∧ v 0 ≤ u 0 ∧ k = 3) ∨ (vs = [i64 2] ∧ h = [.blk 0 [i64 (u 0), i64 (u 1), i64 (u 2), i64 (u 3)] 33, .blk 1 [i64 (v 0), i64 (v 1), i64 (v 2), i64 (v 3)] 33] ∧ v 0 ≤ u 0 ∧ v 1 ≤ u 1 ∧ k = 2) ∨ (vs = [i64 3] ∧ h = [.blk 0 [i64 (u 0), i64 (u 1), i64 (u 2), i64 (u 3)] 33, .blk 1 [i64 (v 0), i64 (v 1), i64 (v 2), i64 (v 3)] 33] ∧ v 0 ≤ u 0 ∧ v 1 ≤ u 1 ∧ v 2 ≤ u 2 ∧ k = 1) ∨ (vs = [i64 4] ∧ h = [.blk 0 [i64 (u 0), i64 (u 1), i64 (u 2), i64 (u 3)] 33, .blk 1 [i64 (v 0), i64 (v 1), i64 (v 2), i64 (v 3)] 33] ∧ v 0 ≤ u 0 ∧ v 1 ≤ u 1 ∧ v 2 ≤ u 2 ∧ v 3 ≤ u 3 ∧ k = 0), 4, ?_⟩
  conv => whnf
  refine ⟨.inl ⟨rfl, rfl, rfl⟩, ?_⟩
  rintro k vs h (⟨rfl, rfl, rfl⟩ | ⟨rfl, rfl, h0, rfl⟩ | ⟨rfl, rfl, h0, h1, rfl⟩ | ⟨rfl, rfl, h0, h1, h2, rfl⟩ | ⟨rfl, rfl, h0, h1, h2, h3, rfl⟩)
  · by_cases h0 : v 0 ≤ u 0
    · (try conv=>whnf)<;>repeat'((first|exact sNo|refine sT ?_|refine sF ?_|((first|refine sD ?_ ?_|refine sE ?_ ?_|refine sN ?_ ?_|refine sG ?_ ?_)<;>intro ht<;>(first|(cases ht;done)|skip))|refine wr ?_|refine ix ?_|refine ati ?_|refine row ?_|refine app ?_|refine dr ?_|refine VBs.own ?_|fail)<;>(try conv=>whnf))
      all_goals exact VRd.mk rfl ⟨3, by omega, .inr (.inl (⟨rfl, rfl, h0, rfl⟩))⟩
    · (try conv=>whnf)<;>repeat'((first|exact sNo|refine sT ?_|refine sF ?_|((first|refine sD ?_ ?_|refine sE ?_ ?_|refine sN ?_ ?_|refine sG ?_ ?_)<;>intro ht<;>(first|(cases ht;done)|skip))|refine wr ?_|refine ix ?_|refine ati ?_|refine row ?_|refine app ?_|refine dr ?_|refine VBs.own ?_|fail)<;>(try conv=>whnf))
      all_goals exact congrArg AV.bool (atMost_no (v := v) (w := u) (d := 0) (by omega) (by omega) h0).symm
  · by_cases h1 : v 1 ≤ u 1
    · (try conv=>whnf)<;>repeat'((first|exact sNo|refine sT ?_|refine sF ?_|((first|refine sD ?_ ?_|refine sE ?_ ?_|refine sN ?_ ?_|refine sG ?_ ?_)<;>intro ht<;>(first|(cases ht;done)|skip))|refine wr ?_|refine ix ?_|refine ati ?_|refine row ?_|refine app ?_|refine dr ?_|refine VBs.own ?_|fail)<;>(try conv=>whnf))
      all_goals exact VRd.mk rfl ⟨2, by omega, .inr (.inr (.inl (⟨rfl, rfl, h0, h1, rfl⟩)))⟩
    · (try conv=>whnf)<;>repeat'((first|exact sNo|refine sT ?_|refine sF ?_|((first|refine sD ?_ ?_|refine sE ?_ ?_|refine sN ?_ ?_|refine sG ?_ ?_)<;>intro ht<;>(first|(cases ht;done)|skip))|refine wr ?_|refine ix ?_|refine ati ?_|refine row ?_|refine app ?_|refine dr ?_|refine VBs.own ?_|fail)<;>(try conv=>whnf))
      all_goals exact congrArg AV.bool (atMost_no (v := v) (w := u) (d := 1) (by omega) (by omega) h1).symm
  · by_cases h2 : v 2 ≤ u 2
    · (try conv=>whnf)<;>repeat'((first|exact sNo|refine sT ?_|refine sF ?_|((first|refine sD ?_ ?_|refine sE ?_ ?_|refine sN ?_ ?_|refine sG ?_ ?_)<;>intro ht<;>(first|(cases ht;done)|skip))|refine wr ?_|refine ix ?_|refine ati ?_|refine row ?_|refine app ?_|refine dr ?_|refine VBs.own ?_|fail)<;>(try conv=>whnf))
      all_goals exact VRd.mk rfl ⟨1, by omega, .inr (.inr (.inr (.inl (⟨rfl, rfl, h0, h1, h2, rfl⟩))))⟩
    · (try conv=>whnf)<;>repeat'((first|exact sNo|refine sT ?_|refine sF ?_|((first|refine sD ?_ ?_|refine sE ?_ ?_|refine sN ?_ ?_|refine sG ?_ ?_)<;>intro ht<;>(first|(cases ht;done)|skip))|refine wr ?_|refine ix ?_|refine ati ?_|refine row ?_|refine app ?_|refine dr ?_|refine VBs.own ?_|fail)<;>(try conv=>whnf))
      all_goals exact congrArg AV.bool (atMost_no (v := v) (w := u) (d := 2) (by omega) (by omega) h2).symm
  · by_cases h3 : v 3 ≤ u 3
    · (try conv=>whnf)<;>repeat'((first|exact sNo|refine sT ?_|refine sF ?_|((first|refine sD ?_ ?_|refine sE ?_ ?_|refine sN ?_ ?_|refine sG ?_ ?_)<;>intro ht<;>(first|(cases ht;done)|skip))|refine wr ?_|refine ix ?_|refine ati ?_|refine row ?_|refine app ?_|refine dr ?_|refine VBs.own ?_|fail)<;>(try conv=>whnf))
      all_goals exact VRd.mk rfl ⟨0, by omega, .inr (.inr (.inr (.inr (⟨rfl, rfl, h0, h1, h2, h3, rfl⟩))))⟩
    · (try conv=>whnf)<;>repeat'((first|exact sNo|refine sT ?_|refine sF ?_|((first|refine sD ?_ ?_|refine sE ?_ ?_|refine sN ?_ ?_|refine sG ?_ ?_)<;>intro ht<;>(first|(cases ht;done)|skip))|refine wr ?_|refine ix ?_|refine ati ?_|refine row ?_|refine app ?_|refine dr ?_|refine VBs.own ?_|fail)<;>(try conv=>whnf))
      all_goals exact congrArg AV.bool (atMost_no (v := v) (w := u) (d := 3) (by omega) (by omega) h3).symm
  · (try conv=>whnf)<;>repeat'((first|exact sNo|refine sT ?_|refine sF ?_|((first|refine sD ?_ ?_|refine sE ?_ ?_|refine sN ?_ ?_|refine sG ?_ ?_)<;>intro ht<;>(first|(cases ht;done)|skip))|refine wr ?_|refine ix ?_|refine ati ?_|refine row ?_|refine app ?_|refine dr ?_|refine VBs.own ?_|fail)<;>(try conv=>whnf))
    all_goals exact congrArg AV.bool (atMost_iff.2 (four h0 h1 h2 h3)).symm
/-- what is sent: which bundles, whether all of a vector is known then, which error -/
def forS (b : Buf) (n : Int) : SS := iterS (b.m.map (·.2)) b.m.length (b.has n, [])
def forOk (b : Buf) (n : Int) (v : Int → Int) (q : Int) : Bool := peerB b n && mayV v && decide (1 ≤ q ∧ q ≤ 64)
theorem take_grow {o : List Bun} {q : Nat} (h : o.length < q) (b : Bun) : (o.take q).map bunE ++ [bunE b] = ((o ++ [b]).take q).map bunE := by
  rw [List.take_of_length_le (by omega), List.take_of_length_le (by simp; omega), List.map_append]
  rfl
theorem take_stay {o : List Bun} {q : Nat} (h : q ≤ o.length) (b : Bun) : (o ++ [b]).take q = o.take q := by rw [List.take_append_of_le_length h]
theorem bfor_no (b : Buf) (n : Int) (v : Int → Int) (q : Int) (h : forOk b n v q = false) : AFn Tryz.prog 37 [.op 0 0, i64 n, vecE v, i64 q] [bufP 0 b] (fun r h' => r = .tup [.nils, .bool false, i64 1] ∧ h' = [bufP 0 b]) := by
  refine afn_in ty_ok Tryz.call37 Tryz.func37 rfl rfl (by decide +kernel) ?_
  unfold forOk at h
  cases hp : peerB b n
  · have r1 := bpeer_p hp
    unfold bufP bufE at *
    unfold lstE at *
    generalize b.m.map prB = R at *
    generalize b.m.length = nn at *
    (try conv=>whnf)<;>repeat'((first|exact sNo|refine sT ?_|refine sF ?_|((first|refine sD ?_ ?_|refine sE ?_ ?_|refine sN ?_ ?_|refine sG ?_ ?_)<;>intro ht<;>(first|(cases ht;done)|skip))|refine wr ?_|refine ix ?_|refine ati ?_|refine row ?_|refine app ?_|refine dr ?_|refine VBs.own ?_|refine cf r1 ?_|refine cg r1 ?_|refine cz r1 ?_|fail)<;>(try conv=>whnf))
    all_goals exact VRt.mk rfl ⟨rfl, rfl⟩
  · have r1 := bpeer_p hp
    cases hv : mayV v
    · have r2 := bvec_p hv
      unfold bufP bufE at *
      unfold lstE at *
      generalize b.m.map prB = R at *
      generalize b.m.length = nn at *
      (try conv=>whnf)<;>repeat'((first|exact sNo|refine sT ?_|refine sF ?_|((first|refine sD ?_ ?_|refine sE ?_ ?_|refine sN ?_ ?_|refine sG ?_ ?_)<;>intro ht<;>(first|(cases ht;done)|skip))|refine wr ?_|refine ix ?_|refine ati ?_|refine row ?_|refine app ?_|refine dr ?_|refine VBs.own ?_|refine cf r1 ?_|refine cg r1 ?_|refine cz r1 ?_|refine cf r2 ?_|refine cg r2 ?_|refine cz r2 ?_|fail)<;>(try conv=>whnf))
      all_goals exact VRt.mk rfl ⟨rfl, rfl⟩
    · have r2 := bvec_p hv
      rw [hp, hv] at h
      simp only [Bool.true_and, decide_eq_false_iff_not] at h
      unfold bufP bufE at *
      unfold lstE at *
      generalize b.m.map prB = R at *
      generalize b.m.length = nn at *
      by_cases h1 : 1 ≤ q
      · (try conv=>whnf)<;>repeat'((first|exact sNo|refine sT ?_|refine sF ?_|((first|refine sD ?_ ?_|refine sE ?_ ?_|refine sN ?_ ?_|refine sG ?_ ?_)<;>intro ht<;>(first|(cases ht;done)|skip))|refine wr ?_|refine ix ?_|refine ati ?_|refine row ?_|refine app ?_|refine dr ?_|refine VBs.own ?_|refine cf r1 ?_|refine cg r1 ?_|refine cz r1 ?_|refine cf r2 ?_|refine cg r2 ?_|refine cz r2 ?_|fail)<;>(try conv=>whnf))
        all_goals exact VRt.mk rfl ⟨rfl, rfl⟩
      · (try conv=>whnf)<;>repeat'((first|exact sNo|refine sT ?_|refine sF ?_|((first|refine sD ?_ ?_|refine sE ?_ ?_|refine sN ?_ ?_|refine sG ?_ ?_)<;>intro ht<;>(first|(cases ht;done)|skip))|refine wr ?_|refine ix ?_|refine ati ?_|refine row ?_|refine app ?_|refine dr ?_|refine VBs.own ?_|refine cf r1 ?_|refine cg r1 ?_|refine cz r1 ?_|refine cf r2 ?_|refine cg r2 ?_|refine cz r2 ?_|fail)<;>(try conv=>whnf))
        all_goals exact VRt.mk rfl ⟨rfl, rfl⟩
theorem iter_zero (L : List Bun) (s : SS) : iterS L 0 s = s := rfl
theorem iter_succ (L : List Bun) (s : SS) (j : Nat) : iterS L (j + 1) s = passS L (iterS L j s) := rfl
theorem bfor_o (b : Buf) (n : Int) (v : Int → Int) (q : Int) (hB : BI b) (hc : b.cn ≤ 4) (h : forOk b n v q = true) : AFn Tryz.prog 37 [.op 0 0, i64 n, vecE v, i64 q] [bufP 0 b] (fun r h' => r = .tup [.own 1 ((forS b n).2.take q.toNat).length, .bool (atMost v (forS b n).1), i64 0] ∧ h' = [bufP 0 b, .row 1 50 10 (((forS b n).2.take q.toNat).map bunE)]) := by
  refine afn_in ty_ok Tryz.call37 Tryz.func37 rfl rfl (by decide +kernel) ?_
  unfold forOk at h
  rw [Bool.and_eq_true, Bool.and_eq_true, decide_eq_true_eq] at h
  obtain ⟨⟨hp, hv⟩, hq1, hq2⟩ := h
  obtain ⟨q', hq'⟩ : ∃ q' : Nat, q = (q' : Int) := ⟨q.toNat, (Int.toNat_of_nonneg (by omega)).symm⟩
  subst hq'
  rw [Int.toNat_natCast]
  have r1 := bpeer_p hp
  have r2 := bvec_p hv
  have hlen := hB.len
  have r3 := allB_a b.m (by omega)
  obtain ⟨F, hF⟩ : ∃ F : SS, F = forS b n := ⟨_, rfl⟩
  rw [← hF]
  obtain ⟨S, hS⟩ : ∃ S : Nat → SS, ∀ j, S j = iterS (b.m.map (·.2)) j (b.has n, []) := ⟨_, fun _ => rfl⟩
  have hR : ∀ x ∈ b.m.map (·.2), rightB x = true := fun x hx => by
    obtain ⟨p, hp, rfl⟩ := List.mem_map.1 hx
    exact (hB.ok p hp).1
  have hSm : ∀ i (hi : i < b.m.length), SmB b.m[i].2 := fun i hi => (hB.ok _ (List.getElem_mem hi)).2
  have hRi : ∀ i (hi : i < b.m.length), rightB b.m[i].2 = true := fun i hi => (hB.ok _ (List.getElem_mem hi)).1
  have hend : ∀ j, noneS (b.m.map (·.2)) (S j).1 → F = S j := fun j hj => by
    rw [hS] at hj
    rw [hF, forS, hS, iterS_same hR hj, List.length_map]
  have hrow := fun i (h : i < b.m.length) => m_row (m := b.m) h
  have hS0 : S 0 = (b.has n, []) := by rw [hS, iter_zero]
  have hSs : ∀ j, S (j + 1) = passS (b.m.map (·.2)) (S j) := fun j => by rw [hS, hS, iter_succ]
  have hLl : (b.m.map (·.2)).length = b.m.length := List.length_map ..
  have hLg : ∀ i (hi : i < b.m.length), (b.m.map (·.2))[i]'(by rw [hLl]; exact hi) = b.m[i].2 := fun i hi => List.getElem_map ..
  have hp4 := peer_four hc hp
  clear hF hS hB
  unfold bufP bufE at *
  unfold lstE at *
  generalize hm : b.m = m at *
  clear hm
  generalize m.map prB = R at *
  generalize hL : m.map (·.2) = L at *
  obtain ⟨nn, hnn⟩ : ∃ nn, m.length = nn := ⟨_, rfl⟩
  rw [hnn] at r1 r3 hlen ⊢
  rcases hp4 with ⟨hn', hn⟩ | ⟨hn', hn⟩ | ⟨hn', hn⟩ | ⟨hn', hn⟩
  all_goals
    rw [hn'] at hS0
    have e0 := congrArg Prod.fst hS0
    dsimp only at e0
    have e1 := congrArg Prod.snd hS0
    dsimp only at e1
    (try conv=>whnf)<;>repeat'((first|exact sNo|refine sT ?_|refine sF ?_|((first|refine sD ?_ ?_|refine sE ?_ ?_|refine sN ?_ ?_|refine sG ?_ ?_)<;>intro ht<;>(first|(cases ht;done)|skip))|refine wr ?_|refine ix ?_|refine ati ?_|refine row ?_|refine app ?_|refine dr ?_|refine VBs.own ?_|refine cf r1 ?_|refine cg r1 ?_|refine cz r1 ?_|refine cf r2 ?_|refine cg r2 ?_|refine cz r2 ?_|fail)<;>(try conv=>whnf))
    refine VLp.mk ⟨[.slot 12 50 10], [6, 11], [12, 13], fun k vs h => ∃ (j : Nat) (t : Bool), vs = [.own 3 ((S j).2.take q').length, .bool t] ∧ h = [.blk 0 (i64 b.self :: i64 b.cn :: .lst nn R :: i64 b.last :: hcE b) 137, .blk 1 [i64 (v 0), i64 (v 1), i64 (v 2), i64 (v 3)] 33, .blk 2 [i64 ((S j).1 0), i64 ((S j).1 1), i64 ((S j).1 2), i64 ((S j).1 3)] 33, .row 3 50 10 (((S j).2.take q').map bunE)] ∧ (t = false → noneS L (S j).1) ∧ k = 2 * pend L (S j).1 + t.toNat, 2 * pend L (S 0).1 + 1, ?_⟩
    conv => whnf
    refine ⟨⟨0, true, by rw [e1, List.take_nil] <;> rfl, by rw [e0, e1, List.take_nil] <;> rfl, fun h => (by cases h), rfl⟩, ?_⟩
    rintro k vs h ⟨j, t, rfl, rfl, ht0, rfl⟩
    have hne := hend j
    cases t
    · have hx := hne (ht0 rfl)
      subst hx
      have r4 := batl_a (S j).1 v
      generalize S j = s at *
      generalize atMost v s.1 = t at *
      cases t
      all_goals (try conv=>whnf)<;>repeat'((first|exact sNo|refine sT ?_|refine sF ?_|((first|refine sD ?_ ?_|refine sE ?_ ?_|refine sN ?_ ?_|refine sG ?_ ?_)<;>intro ht<;>(first|(cases ht;done)|skip))|refine wr ?_|refine ix ?_|refine ati ?_|refine row ?_|refine app ?_|refine dr ?_|refine VBs.own ?_|refine cf r4 ?_|refine cg r4 ?_|refine cz r4 ?_|fail)<;>(try conv=>whnf))
      all_goals exact VRt.mk rfl ⟨rfl, rfl⟩
    · clear ht0
      have hSj := hSs j
      obtain ⟨P, hP⟩ : ∃ P : Nat → SS, ∀ i, P i = passS (L.take i) (S j) := ⟨_, fun _ => rfl⟩
      have hP0 : P 0 = S j := by rw [hP, List.take_zero] <;> rfl
      have hPs : ∀ i (hi : i < m.length), P (i + 1) = stepS (P i) m[i].2 := fun i hi => by
        rw [hP, hP, passS_take (by omega), hLg i (by omega)]
      have hPn : P nn = S (j + 1) := by rw [hSj, hP, List.take_of_length_le (by omega)]
      have hPl : ∀ i, (S j).2.length ≤ (P i).2.length := fun i => by rw [hP]; exact passS_len _ _
      (try conv=>whnf)<;>repeat'((first|exact sNo|refine sT ?_|refine sF ?_|((first|refine sD ?_ ?_|refine sE ?_ ?_|refine sN ?_ ?_|refine sG ?_ ?_)<;>intro ht<;>(first|(cases ht;done)|skip))|refine wr ?_|refine ix ?_|refine ati ?_|refine row ?_|refine app ?_|refine dr ?_|refine VBs.own ?_|refine cf r3 ?_|refine cg r3 ?_|refine cz r3 ?_|fail)<;>(try conv=>whnf))
      refine VLp.mk ⟨[], [6, 11], [12, 13, 46], fun k vs h => ∃ i : Nat, vs = [.own 3 ((P i).2.take q').length, .bool (decide ((S j).2.length < (P i).2.length)), i64 i] ∧ h = [.blk 0 (i64 b.self :: i64 b.cn :: .lst nn R :: i64 b.last :: hcE b) 137, .blk 1 [i64 (v 0), i64 (v 1), i64 (v 2), i64 (v 3)] 33, .blk 2 [i64 ((P i).1 0), i64 ((P i).1 1), i64 ((P i).1 2), i64 ((P i).1 3)] 33, .row 3 50 10 (((P i).2.take q').map bunE)] ∧ i ≤ nn ∧ k = nn - i, nn, ?_⟩
      conv => whnf
      refine ⟨⟨0, by rw [hP0, decide_eq_false (Nat.lt_irrefl _)] <;> rfl, by rw [hP0] <;> rfl, by omega, by omega⟩, ?_⟩
      rintro k vs h ⟨i, rfl, rfl, hi, rfl⟩
      by_cases hin : i < nn
      · have hri := hrow i (by omega)
        have hsi := hSm i (by omega)
        have hrr := hRi i (by omega)
        have hst := hPs i (by omega)
        have hl := hPl i
        generalize m[i].2 = x at *
        cases hk : readyB x (P i).1
        · have q1 := bready_p hsi hk
          rw [stepS_no hk] at hst
          (try conv=>whnf)<;>repeat'((first|exact sNo|refine sT ?_|refine sF ?_|((first|refine sD ?_ ?_|refine sE ?_ ?_|refine sN ?_ ?_|refine sG ?_ ?_)<;>intro ht<;>(first|(cases ht;done)|skip))|refine wr ?_|refine ix ?_|refine ati ?_|refine row ?_|refine app ?_|refine dr ?_|refine VBs.own ?_|refine cf q1 ?_|refine cg q1 ?_|refine cz q1 ?_|fail)<;>(try conv=>whnf))
          all_goals exact VRd.mk rfl ⟨nn - (i + 1), by omega, i + 1, by rw [hst] <;> rfl, by rw [hst] <;> rfl, by omega, rfl⟩
        · have q1 := bready_p hsi hk
          have q2 := bbehind_a x hsi hrr (P i).1
          have q3 := bclone_t x hsi hrr
          rw [stepS_yes hk] at hst
          have f1 := congrArg Prod.fst hst
          have f2 := congrArg Prod.snd hst
          dsimp only at f1 f2
          have hd : decide ((S j).2.length < (P (i + 1)).2.length) = true := by
            rw [f2]
            exact decide_eq_true (by simp; omega)
          have hN : ((P i).2.take q').length = min q' (P i).2.length := List.length_take ..
          by_cases hlt : (P i).2.length < q'
          · have g1 := take_grow hlt x
            rw [← f2] at g1
            have g2 : ((P (i + 1)).2.take q').length = ((P i).2.take q').length + 1 := by rw [List.length_take, f2, List.length_append, List.length_singleton, hN]; omega
            (try conv=>whnf)<;>repeat'((first|exact sNo|refine sT ?_|refine sF ?_|((first|refine sD ?_ ?_|refine sE ?_ ?_|refine sN ?_ ?_|refine sG ?_ ?_)<;>intro ht<;>(first|(cases ht;done)|skip))|refine wr ?_|refine ix ?_|refine ati ?_|refine row ?_|refine app ?_|refine dr ?_|refine VBs.own ?_|refine cf q1 ?_|refine cg q1 ?_|refine cz q1 ?_|refine cf q2 ?_|refine cg q2 ?_|refine cz q2 ?_|refine cf q3 ?_|refine cg q3 ?_|refine cz q3 ?_|fail)<;>(try conv=>whnf))
            all_goals exact VRd.mk rfl ⟨nn - (i + 1), by omega, i + 1, by rw [g2, hd] <;> rfl, by rw [f1, ← g1] <;> rfl, by omega, rfl⟩
          · have g1 := take_stay (q := q') (o := (P i).2) (by omega) x
            rw [← f2] at g1
            (try conv=>whnf)<;>repeat'((first|exact sNo|refine sT ?_|refine sF ?_|((first|refine sD ?_ ?_|refine sE ?_ ?_|refine sN ?_ ?_|refine sG ?_ ?_)<;>intro ht<;>(first|(cases ht;done)|skip))|refine wr ?_|refine ix ?_|refine ati ?_|refine row ?_|refine app ?_|refine dr ?_|refine VBs.own ?_|refine cf q1 ?_|refine cg q1 ?_|refine cz q1 ?_|refine cf q2 ?_|refine cg q2 ?_|refine cz q2 ?_|refine cf q3 ?_|refine cg q3 ?_|refine cz q3 ?_|fail)<;>(try conv=>whnf))
            all_goals exact VRd.mk rfl ⟨nn - (i + 1), by omega, i + 1, by rw [g1, hd] <;> rfl, by rw [f1, g1] <;> rfl, by omega, rfl⟩
      · obtain rfl : i = nn := by omega
        cases hd : decide ((S j).2.length < (P i).2.length)
        · have hle := of_decide_eq_false hd
          have heq : (passS L (S j)).2.length = (S j).2.length := by have := hPl i; rw [← hSj, ← hPn]; omega
          have hno := passS_some heq
          have hsame := passS_none hno
          rw [← hSj] at hsame
          (try conv=>whnf)<;>repeat'((first|exact sNo|refine sT ?_|refine sF ?_|((first|refine sD ?_ ?_|refine sE ?_ ?_|refine sN ?_ ?_|refine sG ?_ ?_)<;>intro ht<;>(first|(cases ht;done)|skip))|refine wr ?_|refine ix ?_|refine ati ?_|refine row ?_|refine app ?_|refine dr ?_|refine VBs.own ?_|fail)<;>(try conv=>whnf))
          all_goals exact VRd.mk rfl ⟨2 * pend L (S (j + 1)).1, by rw [hsame]; show _ < _ + 1; omega, j + 1, false, by rw [hPn] <;> rfl, by rw [hPn] <;> rfl, fun _ => by rw [hsame]; exact hno, rfl⟩
        · have hlt := of_decide_eq_true hd
          have hpd := passS_pend hR (L0 := L) (L := L) (s := S j) (fun x hx => hx) (by rw [← hSj, ← hPn]; omega)
          rw [← hSj] at hpd
          (try conv=>whnf)<;>repeat'((first|exact sNo|refine sT ?_|refine sF ?_|((first|refine sD ?_ ?_|refine sE ?_ ?_|refine sN ?_ ?_|refine sG ?_ ?_)<;>intro ht<;>(first|(cases ht;done)|skip))|refine wr ?_|refine ix ?_|refine ati ?_|refine row ?_|refine app ?_|refine dr ?_|refine VBs.own ?_|fail)<;>(try conv=>whnf))
          all_goals exact VRd.mk rfl ⟨2 * pend L (S (j + 1)).1 + 1, by show _ < _ + 1; omega, j + 1, true, by rw [hPn] <;> rfl, by rw [hPn] <;> rfl, fun h => (by cases h), rfl⟩
end Go.Proofs.YtlghgdgpbnlpmaaGreat
/- What is proved: what a buffer hears, what goes. Conditions: none. -/
namespace Go.Proofs.YtlghgdgpbnlpmaaGreat
open Go.RowKit
set_option linter.unusedVariables false
set_option linter.unusedSimpArgs false
set_option maxRecDepth 100000
set_option maxHeartbeats 100000000
attribute [local irreducible] AFnP AFn AFnR
def heardB (b : Buf) (n : Int) (v : Int → Int) : Buf := { b with has := fun c => if c = n then mxV (b.has c) v else b.has c }
def hearB (b : Buf) (n : Int) (v : Int → Int) : Buf × Int := if (peerB b n && mayV v) = true then (heardB b n v, 0) else (b, 1)
theorem BI.heard {b : Buf} (h : BI b) (n : Int) (v : Int → Int) : BI (heardB b n v) := ⟨h.ok, h.srt, h.le, h.len, h.last⟩
theorem BI.hear {b : Buf} (h : BI b) (n : Int) (v : Int → Int) : BI (hearB b n v).1 := by
  unfold hearB
  split
  · exact h.heard n v
  · exact h
theorem heard_0 (b : Buf) (v : Int → Int) : bufE (heardB b 0 v) = i64 b.self :: i64 b.cn :: lstE prB b.m :: i64 b.last :: ([i64 (mxV (b.has 0) v 0), i64 (mxV (b.has 0) v 1), i64 (mxV (b.has 0) v 2), i64 (mxV (b.has 0) v 3)] ++ (hrE (b.has 1) ++ (hrE (b.has 2) ++ (hrE (b.has 3))))) := by simp [bufE, heardB, hrE]
theorem heard_1 (b : Buf) (v : Int → Int) : bufE (heardB b 1 v) = i64 b.self :: i64 b.cn :: lstE prB b.m :: i64 b.last :: (hrE (b.has 0) ++ ([i64 (mxV (b.has 1) v 0), i64 (mxV (b.has 1) v 1), i64 (mxV (b.has 1) v 2), i64 (mxV (b.has 1) v 3)] ++ (hrE (b.has 2) ++ (hrE (b.has 3))))) := by simp [bufE, heardB, hrE]
theorem heard_2 (b : Buf) (v : Int → Int) : bufE (heardB b 2 v) = i64 b.self :: i64 b.cn :: lstE prB b.m :: i64 b.last :: (hrE (b.has 0) ++ (hrE (b.has 1) ++ ([i64 (mxV (b.has 2) v 0), i64 (mxV (b.has 2) v 1), i64 (mxV (b.has 2) v 2), i64 (mxV (b.has 2) v 3)] ++ (hrE (b.has 3))))) := by simp [bufE, heardB, hrE]
theorem heard_3 (b : Buf) (v : Int → Int) : bufE (heardB b 3 v) = i64 b.self :: i64 b.cn :: lstE prB b.m :: i64 b.last :: (hrE (b.has 0) ++ (hrE (b.has 1) ++ (hrE (b.has 2) ++ ([i64 (mxV (b.has 3) v 0), i64 (mxV (b.has 3) v 1), i64 (mxV (b.has 3) v 2), i64 (mxV (b.has 3) v 3)])))) := by simp [bufE, heardB, hrE]
theorem bheard_o (b : Buf) (n : Int) (v : Int → Int) (hc : b.cn ≤ 4) : AFn Tryz.prog 39 [.op 0 0, i64 n, vecE v] [bufP 0 b] (fun r h' => r = i64 (hearB b n v).2 ∧ h' = [bufP 0 (hearB b n v).1]) := by
  refine afn_in ty_ok Tryz.call39 Tryz.func39 rfl rfl (by decide +kernel) ?_
  unfold hearB
  cases hp : peerB b n
  · have r1 := bpeer_p hp
    rw [Bool.false_and, if_neg (by decide)]
    unfold bufP bufE at *
    unfold lstE at *
    generalize b.m.map prB = R at *
    generalize b.m.length = nn at *
    (try conv=>whnf)<;>repeat'((first|exact sNo|refine sT ?_|refine sF ?_|refine wr ?_|refine ix ?_|refine ati ?_|refine row ?_|refine dr ?_|refine cf r1 ?_|refine cg r1 ?_|refine cz r1 ?_|fail)<;>(try conv=>whnf))
    all_goals exact VRt.mk rfl ⟨rfl, rfl⟩
  have r1 := bpeer_p hp
  cases hv : mayV v
  · have r2 := bvec_p hv
    rw [Bool.and_false, if_neg (by decide)]
    unfold bufP bufE at *
    unfold lstE at *
    generalize b.m.map prB = R at *
    generalize b.m.length = nn at *
    (try conv=>whnf)<;>repeat'((first|exact sNo|refine sT ?_|refine sF ?_|refine wr ?_|refine ix ?_|refine ati ?_|refine row ?_|refine dr ?_|refine cf r1 ?_|refine cg r1 ?_|refine cz r1 ?_|refine cf r2 ?_|refine cg r2 ?_|refine cz r2 ?_|fail)<;>(try conv=>whnf))
    all_goals exact VRt.mk rfl ⟨rfl, rfl⟩
  have r2 := bvec_p hv
  rw [Bool.and_self, if_pos rfl]
  have hp4 := peer_four hc hp
  dsimp only
  have hE : ∀ x : Int, n = x → bufE (heardB b n v) = bufE (heardB b x v) := fun x e => by rw [e]
  unfold bufP
  rcases hp4 with ⟨hn', hn⟩ | ⟨hn', hn⟩ | ⟨hn', hn⟩ | ⟨hn', hn⟩
  · rw [hE _ hn', heard_0]
    clear hE
    unfold bufE at *
    unfold lstE at *
    generalize b.m.map prB = R at *
    generalize b.m.length = nn at *
    (try conv=>whnf)<;>repeat'((first|exact sNo|refine sT ?_|refine sF ?_|refine wr ?_|refine ix ?_|refine ati ?_|refine row ?_|refine dr ?_|refine cf r1 ?_|refine cg r1 ?_|refine cz r1 ?_|refine cf r2 ?_|refine cg r2 ?_|refine cz r2 ?_|fail)<;>(try conv=>whnf))
    refine VLp.mk ⟨[], [5], [19], fun k vs h => (vs = [i64 0] ∧ h = [.blk 0 (i64 b.self :: i64 b.cn :: .lst nn R :: i64 b.last :: ([i64 (b.has 0 0), i64 (b.has 0 1), i64 (b.has 0 2), i64 (b.has 0 3)] ++ (hrE (b.has 1) ++ (hrE (b.has 2) ++ (hrE (b.has 3)))))) 137, .blk 1 [i64 (v 0), i64 (v 1), i64 (v 2), i64 (v 3)] 33] ∧ k = 4) ∨ (vs = [i64 1] ∧ h = [.blk 0 (i64 b.self :: i64 b.cn :: .lst nn R :: i64 b.last :: ([i64 (mxV (b.has 0) v 0), i64 (b.has 0 1), i64 (b.has 0 2), i64 (b.has 0 3)] ++ (hrE (b.has 1) ++ (hrE (b.has 2) ++ (hrE (b.has 3)))))) 137, .blk 1 [i64 (v 0), i64 (v 1), i64 (v 2), i64 (v 3)] 33] ∧ k = 3) ∨ (vs = [i64 2] ∧ h = [.blk 0 (i64 b.self :: i64 b.cn :: .lst nn R :: i64 b.last :: ([i64 (mxV (b.has 0) v 0), i64 (mxV (b.has 0) v 1), i64 (b.has 0 2), i64 (b.has 0 3)] ++ (hrE (b.has 1) ++ (hrE (b.has 2) ++ (hrE (b.has 3)))))) 137, .blk 1 [i64 (v 0), i64 (v 1), i64 (v 2), i64 (v 3)] 33] ∧ k = 2) ∨ (vs = [i64 3] ∧ h = [.blk 0 (i64 b.self :: i64 b.cn :: .lst nn R :: i64 b.last :: ([i64 (mxV (b.has 0) v 0), i64 (mxV (b.has 0) v 1), i64 (mxV (b.has 0) v 2), i64 (b.has 0 3)] ++ (hrE (b.has 1) ++ (hrE (b.has 2) ++ (hrE (b.has 3)))))) 137, .blk 1 [i64 (v 0), i64 (v 1), i64 (v 2), i64 (v 3)] 33] ∧ k = 1) ∨ (vs = [i64 4] ∧ h = [.blk 0 (i64 b.self :: i64 b.cn :: .lst nn R :: i64 b.last :: ([i64 (mxV (b.has 0) v 0), i64 (mxV (b.has 0) v 1), i64 (mxV (b.has 0) v 2), i64 (mxV (b.has 0) v 3)] ++ (hrE (b.has 1) ++ (hrE (b.has 2) ++ (hrE (b.has 3)))))) 137, .blk 1 [i64 (v 0), i64 (v 1), i64 (v 2), i64 (v 3)] 33] ∧ k = 0), 4, ?_⟩
    conv => whnf
    refine ⟨.inl ⟨rfl, rfl, rfl⟩, ?_⟩
    rintro k vs h (⟨rfl, rfl, rfl⟩ | ⟨rfl, rfl, rfl⟩ | ⟨rfl, rfl, rfl⟩ | ⟨rfl, rfl, rfl⟩ | ⟨rfl, rfl, rfl⟩)
    · (try conv=>whnf)<;>repeat'((first|exact sNo|refine sT ?_|refine sF ?_|refine wr ?_|refine ix ?_|refine ati ?_|refine row ?_|refine dr ?_|fail)<;>(try conv=>whnf))
      all_goals exact VRd.mk rfl ⟨3, by omega, .inr (.inl (⟨rfl, rfl, rfl⟩))⟩
    · (try conv=>whnf)<;>repeat'((first|exact sNo|refine sT ?_|refine sF ?_|refine wr ?_|refine ix ?_|refine ati ?_|refine row ?_|refine dr ?_|fail)<;>(try conv=>whnf))
      all_goals exact VRd.mk rfl ⟨2, by omega, .inr (.inr (.inl (⟨rfl, rfl, rfl⟩)))⟩
    · (try conv=>whnf)<;>repeat'((first|exact sNo|refine sT ?_|refine sF ?_|refine wr ?_|refine ix ?_|refine ati ?_|refine row ?_|refine dr ?_|fail)<;>(try conv=>whnf))
      all_goals exact VRd.mk rfl ⟨1, by omega, .inr (.inr (.inr (.inl (⟨rfl, rfl, rfl⟩))))⟩
    · (try conv=>whnf)<;>repeat'((first|exact sNo|refine sT ?_|refine sF ?_|refine wr ?_|refine ix ?_|refine ati ?_|refine row ?_|refine dr ?_|fail)<;>(try conv=>whnf))
      all_goals exact VRd.mk rfl ⟨0, by omega, .inr (.inr (.inr (.inr (⟨rfl, rfl, rfl⟩))))⟩
    · (try conv=>whnf)<;>repeat'((first|exact sNo|refine sT ?_|refine sF ?_|refine wr ?_|refine ix ?_|refine ati ?_|refine row ?_|refine dr ?_|fail)<;>(try conv=>whnf))
      all_goals exact VRt.mk rfl ⟨rfl, rfl⟩
  · rw [hE _ hn', heard_1]
    clear hE
    unfold bufE at *
    unfold lstE at *
    generalize b.m.map prB = R at *
    generalize b.m.length = nn at *
    (try conv=>whnf)<;>repeat'((first|exact sNo|refine sT ?_|refine sF ?_|refine wr ?_|refine ix ?_|refine ati ?_|refine row ?_|refine dr ?_|refine cf r1 ?_|refine cg r1 ?_|refine cz r1 ?_|refine cf r2 ?_|refine cg r2 ?_|refine cz r2 ?_|fail)<;>(try conv=>whnf))
    refine VLp.mk ⟨[], [5], [19], fun k vs h => (vs = [i64 0] ∧ h = [.blk 0 (i64 b.self :: i64 b.cn :: .lst nn R :: i64 b.last :: (hrE (b.has 0) ++ ([i64 (b.has 1 0), i64 (b.has 1 1), i64 (b.has 1 2), i64 (b.has 1 3)] ++ (hrE (b.has 2) ++ (hrE (b.has 3)))))) 137, .blk 1 [i64 (v 0), i64 (v 1), i64 (v 2), i64 (v 3)] 33] ∧ k = 4) ∨ (vs = [i64 1] ∧ h = [.blk 0 (i64 b.self :: i64 b.cn :: .lst nn R :: i64 b.last :: (hrE (b.has 0) ++ ([i64 (mxV (b.has 1) v 0), i64 (b.has 1 1), i64 (b.has 1 2), i64 (b.has 1 3)] ++ (hrE (b.has 2) ++ (hrE (b.has 3)))))) 137, .blk 1 [i64 (v 0), i64 (v 1), i64 (v 2), i64 (v 3)] 33] ∧ k = 3) ∨ (vs = [i64 2] ∧ h = [.blk 0 (i64 b.self :: i64 b.cn :: .lst nn R :: i64 b.last :: (hrE (b.has 0) ++ ([i64 (mxV (b.has 1) v 0), i64 (mxV (b.has 1) v 1), i64 (b.has 1 2), i64 (b.has 1 3)] ++ (hrE (b.has 2) ++ (hrE (b.has 3)))))) 137, .blk 1 [i64 (v 0), i64 (v 1), i64 (v 2), i64 (v 3)] 33] ∧ k = 2) ∨ (vs = [i64 3] ∧ h = [.blk 0 (i64 b.self :: i64 b.cn :: .lst nn R :: i64 b.last :: (hrE (b.has 0) ++ ([i64 (mxV (b.has 1) v 0), i64 (mxV (b.has 1) v 1), i64 (mxV (b.has 1) v 2), i64 (b.has 1 3)] ++ (hrE (b.has 2) ++ (hrE (b.has 3)))))) 137, .blk 1 [i64 (v 0), i64 (v 1), i64 (v 2), i64 (v 3)] 33] ∧ k = 1) ∨ (vs = [i64 4] ∧ h = [.blk 0 (i64 b.self :: i64 b.cn :: .lst nn R :: i64 b.last :: (hrE (b.has 0) ++ ([i64 (mxV (b.has 1) v 0), i64 (mxV (b.has 1) v 1), i64 (mxV (b.has 1) v 2), i64 (mxV (b.has 1) v 3)] ++ (hrE (b.has 2) ++ (hrE (b.has 3)))))) 137, .blk 1 [i64 (v 0), i64 (v 1), i64 (v 2), i64 (v 3)] 33] ∧ k = 0), 4, ?_⟩
    conv => whnf
    refine ⟨.inl ⟨rfl, rfl, rfl⟩, ?_⟩
    rintro k vs h (⟨rfl, rfl, rfl⟩ | ⟨rfl, rfl, rfl⟩ | ⟨rfl, rfl, rfl⟩ | ⟨rfl, rfl, rfl⟩ | ⟨rfl, rfl, rfl⟩)
    · (try conv=>whnf)<;>repeat'((first|exact sNo|refine sT ?_|refine sF ?_|refine wr ?_|refine ix ?_|refine ati ?_|refine row ?_|refine dr ?_|fail)<;>(try conv=>whnf))
      all_goals exact VRd.mk rfl ⟨3, by omega, .inr (.inl (⟨rfl, rfl, rfl⟩))⟩
    · (try conv=>whnf)<;>repeat'((first|exact sNo|refine sT ?_|refine sF ?_|refine wr ?_|refine ix ?_|refine ati ?_|refine row ?_|refine dr ?_|fail)<;>(try conv=>whnf))
      all_goals exact VRd.mk rfl ⟨2, by omega, .inr (.inr (.inl (⟨rfl, rfl, rfl⟩)))⟩
    · (try conv=>whnf)<;>repeat'((first|exact sNo|refine sT ?_|refine sF ?_|refine wr ?_|refine ix ?_|refine ati ?_|refine row ?_|refine dr ?_|fail)<;>(try conv=>whnf))
      all_goals exact VRd.mk rfl ⟨1, by omega, .inr (.inr (.inr (.inl (⟨rfl, rfl, rfl⟩))))⟩
    · (try conv=>whnf)<;>repeat'((first|exact sNo|refine sT ?_|refine sF ?_|refine wr ?_|refine ix ?_|refine ati ?_|refine row ?_|refine dr ?_|fail)<;>(try conv=>whnf))
      all_goals exact VRd.mk rfl ⟨0, by omega, .inr (.inr (.inr (.inr (⟨rfl, rfl, rfl⟩))))⟩
    · (try conv=>whnf)<;>repeat'((first|exact sNo|refine sT ?_|refine sF ?_|refine wr ?_|refine ix ?_|refine ati ?_|refine row ?_|refine dr ?_|fail)<;>(try conv=>whnf))
      all_goals exact VRt.mk rfl ⟨rfl, rfl⟩
  · rw [hE _ hn', heard_2]
    clear hE
    unfold bufE at *
    unfold lstE at *
    generalize b.m.map prB = R at *
    generalize b.m.length = nn at *
    (try conv=>whnf)<;>repeat'((first|exact sNo|refine sT ?_|refine sF ?_|refine wr ?_|refine ix ?_|refine ati ?_|refine row ?_|refine dr ?_|refine cf r1 ?_|refine cg r1 ?_|refine cz r1 ?_|refine cf r2 ?_|refine cg r2 ?_|refine cz r2 ?_|fail)<;>(try conv=>whnf))
    refine VLp.mk ⟨[], [5], [19], fun k vs h => (vs = [i64 0] ∧ h = [.blk 0 (i64 b.self :: i64 b.cn :: .lst nn R :: i64 b.last :: (hrE (b.has 0) ++ (hrE (b.has 1) ++ ([i64 (b.has 2 0), i64 (b.has 2 1), i64 (b.has 2 2), i64 (b.has 2 3)] ++ (hrE (b.has 3)))))) 137, .blk 1 [i64 (v 0), i64 (v 1), i64 (v 2), i64 (v 3)] 33] ∧ k = 4) ∨ (vs = [i64 1] ∧ h = [.blk 0 (i64 b.self :: i64 b.cn :: .lst nn R :: i64 b.last :: (hrE (b.has 0) ++ (hrE (b.has 1) ++ ([i64 (mxV (b.has 2) v 0), i64 (b.has 2 1), i64 (b.has 2 2), i64 (b.has 2 3)] ++ (hrE (b.has 3)))))) 137, .blk 1 [i64 (v 0), i64 (v 1), i64 (v 2), i64 (v 3)] 33] ∧ k = 3) ∨ (vs = [i64 2] ∧ h = [.blk 0 (i64 b.self :: i64 b.cn :: .lst nn R :: i64 b.last :: (hrE (b.has 0) ++ (hrE (b.has 1) ++ ([i64 (mxV (b.has 2) v 0), i64 (mxV (b.has 2) v 1), i64 (b.has 2 2), i64 (b.has 2 3)] ++ (hrE (b.has 3)))))) 137, .blk 1 [i64 (v 0), i64 (v 1), i64 (v 2), i64 (v 3)] 33] ∧ k = 2) ∨ (vs = [i64 3] ∧ h = [.blk 0 (i64 b.self :: i64 b.cn :: .lst nn R :: i64 b.last :: (hrE (b.has 0) ++ (hrE (b.has 1) ++ ([i64 (mxV (b.has 2) v 0), i64 (mxV (b.has 2) v 1), i64 (mxV (b.has 2) v 2), i64 (b.has 2 3)] ++ (hrE (b.has 3)))))) 137, .blk 1 [i64 (v 0), i64 (v 1), i64 (v 2), i64 (v 3)] 33] ∧ k = 1) ∨ (vs = [i64 4] ∧ h = [.blk 0 (i64 b.self :: i64 b.cn :: .lst nn R :: i64 b.last :: (hrE (b.has 0) ++ (hrE (b.has 1) ++ ([i64 (mxV (b.has 2) v 0), i64 (mxV (b.has 2) v 1), i64 (mxV (b.has 2) v 2), i64 (mxV (b.has 2) v 3)] ++ (hrE (b.has 3)))))) 137, .blk 1 [i64 (v 0), i64 (v 1), i64 (v 2), i64 (v 3)] 33] ∧ k = 0), 4, ?_⟩
    conv => whnf
    refine ⟨.inl ⟨rfl, rfl, rfl⟩, ?_⟩
    rintro k vs h (⟨rfl, rfl, rfl⟩ | ⟨rfl, rfl, rfl⟩ | ⟨rfl, rfl, rfl⟩ | ⟨rfl, rfl, rfl⟩ | ⟨rfl, rfl, rfl⟩)
    · (try conv=>whnf)<;>repeat'((first|exact sNo|refine sT ?_|refine sF ?_|refine wr ?_|refine ix ?_|refine ati ?_|refine row ?_|refine dr ?_|fail)<;>(try conv=>whnf))
      all_goals exact VRd.mk rfl ⟨3, by omega, .inr (.inl (⟨rfl, rfl, rfl⟩))⟩
    · (try conv=>whnf)<;>repeat'((first|exact sNo|refine sT ?_|refine sF ?_|refine wr ?_|refine ix ?_|refine ati ?_|refine row ?_|refine dr ?_|fail)<;>(try conv=>whnf))
      all_goals exact VRd.mk rfl ⟨2, by omega, .inr (.inr (.inl (⟨rfl, rfl, rfl⟩)))⟩
    · (try conv=>whnf)<;>repeat'((first|exact sNo|refine sT ?_|refine sF ?_|refine wr ?_|refine ix ?_|refine ati ?_|refine row ?_|refine dr ?_|fail)<;>(try conv=>whnf))
      all_goals exact VRd.mk rfl ⟨1, by omega, .inr (.inr (.inr (.inl (⟨rfl, rfl, rfl⟩))))⟩
    · (try conv=>whnf)<;>repeat'((first|exact sNo|refine sT ?_|refine sF ?_|refine wr ?_|refine ix ?_|refine ati ?_|refine row ?_|refine dr ?_|fail)<;>(try conv=>whnf))
      all_goals exact VRd.mk rfl ⟨0, by omega, .inr (.inr (.inr (.inr (⟨rfl, rfl, rfl⟩))))⟩
    · (try conv=>whnf)<;>repeat'((first|exact sNo|refine sT ?_|refine sF ?_|refine wr ?_|refine ix ?_|refine ati ?_|refine row ?_|refine dr ?_|fail)<;>(try conv=>whnf))
      all_goals exact VRt.mk rfl ⟨rfl, rfl⟩
  · rw [hE _ hn', heard_3]
    clear hE
    unfold bufE at *
    unfold lstE at *
    generalize b.m.map prB = R at *
    generalize b.m.length = nn at *
    (try conv=>whnf)<;>repeat'((first|exact sNo|refine sT ?_|refine sF ?_|refine wr ?_|refine ix ?_|refine ati ?_|refine row ?_|refine dr ?_|refine cf r1 ?_|refine cg r1 ?_|refine cz r1 ?_|refine cf r2 ?_|refine cg r2 ?_|refine cz r2 ?_|fail)<;>(try conv=>whnf))
    refine VLp.mk ⟨[], [5], [19], fun k vs h => (vs = [i64 0] ∧ h = [.blk 0 (i64 b.self :: i64 b.cn :: .lst nn R :: i64 b.last :: (hrE (b.has 0) ++ (hrE (b.has 1) ++ (hrE (b.has 2) ++ ([i64 (b.has 3 0), i64 (b.has 3 1), i64 (b.has 3 2), i64 (b.has 3 3)]))))) 137, .blk 1 [i64 (v 0), i64 (v 1), i64 (v 2), i64 (v 3)] 33] ∧ k = 4) ∨ (vs = [i64 1] ∧ h = [.blk 0 (i64 b.self :: i64 b.cn :: .lst nn R :: i64 b.last :: (hrE (b.has 0) ++ (hrE (b.has 1) ++ (hrE (b.has 2) ++ ([i64 (mxV (b.has 3) v 0), i64 (b.has 3 1), i64 (b.has 3 2), i64 (b.has 3 3)]))))) 137, .blk 1 [i64 (v 0), i64 (v 1), i64 (v 2), i64 (v 3)] 33] ∧ k = 3) ∨ (vs = [i64 2] ∧ h = [.blk 0 (i64 b.self :: i64 b.cn :: .lst nn R :: i64 b.last :: (hrE (b.has 0) ++ (hrE (b.has 1) ++ (hrE (b.has 2) ++ ([i64 (mxV (b.has 3) v 0), i64 (mxV (b.has 3) v 1), i64 (b.has 3 2), i64 (b.has 3 3)]))))) 137, .blk 1 [i64 (v 0), i64 (v 1), i64 (v 2), i64 (v 3)] 33] ∧ k = 2) ∨ (vs = [i64 3] ∧ h = [.blk 0 (i64 b.self :: i64 b.cn :: .lst nn R :: i64 b.last :: (hrE (b.has 0) ++ (hrE (b.has 1) ++ (hrE (b.has 2) ++ ([i64 (mxV (b.has 3) v 0), i64 (mxV (b.has 3) v 1), i64 (mxV (b.has 3) v 2), i64 (b.has 3 3)]))))) 137, .blk 1 [i64 (v 0), i64 (v 1), i64 (v 2), i64 (v 3)] 33] ∧ k = 1) ∨ (vs = [i64 4] ∧ h = [.blk 0 (i64 b.self :: i64 b.cn :: .lst nn R :: i64 b.last :: (hrE (b.has 0) ++ (hrE (b.has 1) ++ (hrE (b.has 2) ++ ([i64 (mxV (b.has 3) v 0), i64 (mxV (b.has 3) v 1), i64 (mxV (b.has 3) v 2), i64 (mxV (b.has 3) v 3)]))))) 137, .blk 1 [i64 (v 0), i64 (v 1), i64 (v 2), i64 (v 3)] 33] ∧ k = 0), 4, ?_⟩
    conv => whnf
    refine ⟨.inl ⟨rfl, rfl, rfl⟩, ?_⟩
    rintro k vs h (⟨rfl, rfl, rfl⟩ | ⟨rfl, rfl, rfl⟩ | ⟨rfl, rfl, rfl⟩ | ⟨rfl, rfl, rfl⟩ | ⟨rfl, rfl, rfl⟩)
    · (try conv=>whnf)<;>repeat'((first|exact sNo|refine sT ?_|refine sF ?_|refine wr ?_|refine ix ?_|refine ati ?_|refine row ?_|refine dr ?_|fail)<;>(try conv=>whnf))
      all_goals exact VRd.mk rfl ⟨3, by omega, .inr (.inl (⟨rfl, rfl, rfl⟩))⟩
    · (try conv=>whnf)<;>repeat'((first|exact sNo|refine sT ?_|refine sF ?_|refine wr ?_|refine ix ?_|refine ati ?_|refine row ?_|refine dr ?_|fail)<;>(try conv=>whnf))
      all_goals exact VRd.mk rfl ⟨2, by omega, .inr (.inr (.inl (⟨rfl, rfl, rfl⟩)))⟩
    · (try conv=>whnf)<;>repeat'((first|exact sNo|refine sT ?_|refine sF ?_|refine wr ?_|refine ix ?_|refine ati ?_|refine row ?_|refine dr ?_|fail)<;>(try conv=>whnf))
      all_goals exact VRd.mk rfl ⟨1, by omega, .inr (.inr (.inr (.inl (⟨rfl, rfl, rfl⟩))))⟩
    · (try conv=>whnf)<;>repeat'((first|exact sNo|refine sT ?_|refine sF ?_|refine wr ?_|refine ix ?_|refine ati ?_|refine row ?_|refine dr ?_|fail)<;>(try conv=>whnf))
      all_goals exact VRd.mk rfl ⟨0, by omega, .inr (.inr (.inr (.inr (⟨rfl, rfl, rfl⟩))))⟩
    · (try conv=>whnf)<;>repeat'((first|exact sNo|refine sT ?_|refine sF ?_|refine wr ?_|refine ix ?_|refine ati ?_|refine row ?_|refine dr ?_|fail)<;>(try conv=>whnf))
      all_goals exact VRt.mk rfl ⟨rfl, rfl⟩
/-! Clear -/
def clrB (b : Buf) : Buf := { b with m := [] }
theorem BI.clr {b : Buf} (h : BI b) : BI (clrB b) := ⟨fun p hp => (by cases hp), List.Pairwise.nil, fun p hp => (by cases hp), Nat.zero_le _, h.last⟩
theorem bclear_o (b : Buf) : AFn Tryz.prog 51 [.op 0 0] [bufP 0 b] (fun r h' => r = .tup [] ∧ h' = [bufP 0 (clrB b)]) := by
  refine AFn.fl (R := fun r h' => r = .tup [] ∧ h' = [.blk 0 ((bufE b).set 2 .nils) 137]) ?_ (by rintro r h' ⟨rfl, rfl⟩; exact ⟨rfl, rfl⟩)
  refine afn_in ty_ok Tryz.call51 Tryz.func51 rfl rfl (by decide +kernel) ?_
  unfold bufP bufE at *
  unfold lstE at *
  generalize b.m.map prB = R at *
  generalize b.m.length = nn at *
  (try conv=>whnf)<;>repeat'((first|exact sNo|refine sT ?_|refine sF ?_|((first|refine sD ?_ ?_|refine sE ?_ ?_|refine sN ?_ ?_|refine sG ?_ ?_)<;>intro ht<;>(first|(cases ht;done)|skip))|refine wr ?_|refine ix ?_|refine ati ?_|refine row ?_|refine app ?_|refine dr ?_|refine VAnd.mk ?_ ?_|exact VJe.mk rfl ⟨rfl,rfl⟩|refine .inl (slM ?_)|refine .inl (slO ?_)|refine slM ?_|refine slO ?_|refine slN ?_|refine slS ?_|refine swB (swM fun C hC=>?_)|refine sj ?_|refine .inl (sv ?_)|refine sv ?_|refine cl ?_|refine s3 ?_|refine az ?_|refine rm ?_|refine VBs.own ?_|fail)<;>(try conv=>whnf))
  all_goals exact VRt.mk rfl ⟨rfl, rfl⟩
/-! Collect -/
def allW (b : Buf) (x : Bun) : Nat → Bool
  | 0 => true
  | k + 1 => allW b x k && (decide ((k : Int) = b.self) || knownB x (b.has k))
def goesB (b : Buf) (x : Bun) : Bool := allW b x b.cn.toNat
def stayM (b : Buf) (m : List (Int × Bun)) : List (Int × Bun) := m.filter fun p => !goesB b p.2
def colB (b : Buf) : Buf := { b with m := stayM b b.m }
def colN (b : Buf) : Nat := b.m.length - (stayM b b.m).length
theorem BI.col {b : Buf} (h : BI b) : BI (colB b) := by
  have hs : (stayM b b.m).Sublist b.m := List.filter_sublist
  exact ⟨fun p hp => h.ok p (hs.subset hp), h.srt.sublist hs, fun p hp => h.le p (hs.subset hp), Nat.le_trans hs.length_le h.len, h.last⟩
theorem del_midM {k : Int} {x : Bun} {D : List (Int × Bun)} : ∀ {A : List (Int × Bun)}, (∀ p ∈ A, p.1 < k) → delM ltI k (A ++ (k, x) :: D) = A ++ D
  | [], _ => by simp [delM, ltI]
  | p :: A, h => by
    have h1 := h p (List.mem_cons_self ..)
    rw [List.cons_append, delM, if_pos (by simpa [ltI] using h1), del_midM fun q hq => h q (List.mem_cons_of_mem _ hq)]
    rfl
def midB (b : Buf) (m : List (Int × Bun)) (i : Nat) : List (Int × Bun) := stayM b (m.take i) ++ m.drop i
theorem midB_zero (b : Buf) (m : List (Int × Bun)) : midB b m 0 = m := rfl
theorem midB_end (b : Buf) (m : List (Int × Bun)) : midB b m m.length = stayM b m := by unfold midB; rw [List.take_length, List.drop_length, List.append_nil]
theorem stayM_snoc (b : Buf) (m : List (Int × Bun)) (p : Int × Bun) : stayM b (m ++ [p]) = stayM b m ++ (if goesB b p.2 = true then [] else [p]) := by
  unfold stayM
  rw [List.filter_append]
  cases h : goesB b p.2 <;> simp [h]
theorem midB_at {b : Buf} {m : List (Int × Bun)} {i : Nat} (h : i < m.length) : midB b m i = stayM b (m.take i) ++ m[i] :: m.drop (i + 1) := by
  unfold midB
  rw [← List.drop_eq_getElem_cons h]
theorem midB_go {b : Buf} {m : List (Int × Bun)} {i : Nat} (h : i < m.length) (hg : goesB b m[i].2 = true) : midB b m (i + 1) = stayM b (m.take i) ++ m.drop (i + 1) := by
  unfold midB
  rw [← take_snoc h, stayM_snoc, if_pos hg, List.append_nil]
theorem midB_stay {b : Buf} {m : List (Int × Bun)} {i : Nat} (h : i < m.length) (hg : goesB b m[i].2 = false) : midB b m (i + 1) = midB b m i := by
  rw [midB_at h]
  unfold midB
  rw [← take_snoc h, stayM_snoc, if_neg (by rw [hg]; decide), List.append_assoc]
  rfl
theorem midB_sub (b : Buf) (m : List (Int × Bun)) (i : Nat) : (midB b m i).Sublist m := by
  unfold midB
  have := (List.filter_sublist (l := m.take i) (p := fun p => !goesB b p.2)).append (List.Sublist.refl (m.drop i))
  rwa [List.take_append_drop] at this
theorem midB_del {b : Buf} {m : List (Int × Bun)} (hs : srtM ltI m) {i : Nat} (h : i < m.length) (hg : goesB b m[i].2 = true) : delM ltI m[i].1 (midB b m i) = midB b m (i + 1) := by
  rw [midB_go h hg, midB_at h]
  refine del_midM fun p hp => ?_
  have hp : p ∈ m.take i := List.filter_sublist.subset hp
  obtain ⟨j, hj, rfl⟩ := List.getElem_of_mem hp
  rw [List.getElem_take]
  rw [List.length_take] at hj
  have := List.pairwise_iff_getElem.1 hs j i (by omega) h (by omega)
  simpa [ltI] using this
theorem stayM_len (b : Buf) (m : List (Int × Bun)) : (stayM b m).length ≤ m.length := List.length_filter_le ..
theorem bcol_o (b : Buf) (hB : BI b) (hc : 0 ≤ b.cn ∧ b.cn ≤ 4) : AFn Tryz.prog 42 [.op 0 0] [bufP 0 b] (fun r h' => r = i64 (colN b : Nat) ∧ h' = [bufP 0 (colB b)]) := by
  refine afn_in ty_ok Tryz.call42 Tryz.func42 rfl rfl (by decide +kernel) ?_
  have hlen := hB.len
  have r1 := allB_a b.m (by omega)
  have hrow := fun i (h : i < b.m.length) => m_row (m := b.m) h
  have hSm : ∀ i (hi : i < b.m.length), SmB b.m[i].2 := fun i hi => (hB.ok _ (List.getElem_mem hi)).2
  obtain ⟨N, hN⟩ : ∃ N : Nat → Nat, ∀ i, N i = (midB b b.m i).length := ⟨_, fun _ => rfl⟩
  obtain ⟨R, hR⟩ : ∃ R : Nat → List (List AV), ∀ i, R i = (midB b b.m i).map prB := ⟨_, fun _ => rfl⟩
  have e0N : N 0 = b.m.length := by rw [hN, midB_zero]
  have e0R : R 0 = b.m.map prB := by rw [hR, midB_zero]
  have eN : N b.m.length = (stayM b b.m).length := by rw [hN, midB_end]
  have eR : R b.m.length = (stayM b b.m).map prB := by rw [hR, midB_end]
  obtain ⟨C, hC⟩ : ∃ C : Nat → Nat, ∀ i, C i = i - (stayM b (b.m.take i)).length := ⟨_, fun _ => rfl⟩
  have hC0 : C 0 = 0 := by rw [hC]; omega
  have hCe : C b.m.length = colN b := by rw [hC, List.take_length]; rfl
  have hdel : ∀ i (h : i < b.m.length), goesB b b.m[i].2 = true → AFnP Tryz.prog 63 [.agg [.lst (N i) (R i)], i64 b.m[i].1] (.agg [.lst (N (i + 1)) (R (i + 1))]) := fun i h hk => by
    have hs := midB_sub b b.m i
    have r := delB_a (midB b b.m i) (by have := hs.length_le; omega) (hB.srt.sublist hs) b.m[i].1
    rw [midB_del hB.srt h hk] at r
    unfold lstE at r
    rw [← hN, ← hR, ← hN, ← hR] at r
    exact r
  have hCl : ∀ i, (stayM b (b.m.take i)).length ≤ i := fun i => by have := stayM_len b (b.m.take i); rw [List.length_take] at this; omega
  have hgo : ∀ i (h : i < b.m.length), goesB b b.m[i].2 = true → C (i + 1) = C i + 1 := fun i h hg => by
    rw [hC, hC, ← take_snoc h, stayM_snoc, if_pos hg, List.append_nil]
    have := hCl i
    omega
  have hstay : ∀ i (h : i < b.m.length), goesB b b.m[i].2 = false → C (i + 1) = C i ∧ N (i + 1) = N i ∧ R (i + 1) = R i := fun i h hg => by
    rw [hN, hN, hR, hR, midB_stay h hg, hC, hC, ← take_snoc h, stayM_snoc, if_neg (by rw [hg]; decide), List.length_append]
    have := hCl i
    exact ⟨by simp, rfl, rfl⟩
  rw [← hCe]
  unfold bufP bufE colB
  dsimp only
  unfold lstE at r1 ⊢
  rw [← eN, ← eR]
  rw [← e0N, ← e0R] at r1 ⊢
  rw [← e0R] at hrow
  have hNn : b.m.length = N 0 := e0N.symm
  have hCl2 : ∀ i, C i ≤ i := fun i => by rw [hC]; omega
  clear hN hR hC e0R eN eR hCe hCl hB e0N
  have hg0 : ∀ x, goesB b x = allW b x b.cn.toNat := fun _ => rfl
  generalize hm : b.m = m at *
  clear hm
  (try conv=>whnf)<;>repeat'((first|exact sNo|refine sT ?_|refine sF ?_|refine wr ?_|refine ix ?_|refine ati ?_|refine row ?_|refine dr ?_|refine cf r1 ?_|refine cg r1 ?_|refine cz r1 ?_|fail)<;>(try conv=>whnf))
  refine VLp.mk ⟨[], [], [3, 16], fun k vs h => ∃ i : Nat, vs = [i64 (C i : Nat), i64 i] ∧ h = [.blk 0 (i64 b.self :: i64 b.cn :: .lst (N i) (R i) :: i64 b.last :: hcE b) 137] ∧ i ≤ N 0 ∧ k = N 0 - i, N 0, ?_⟩
  conv => whnf
  refine ⟨⟨0, by rw [hC0]; rfl, rfl, by omega, by omega⟩, ?_⟩
  rintro k vs h ⟨i, rfl, rfl, hi, rfl⟩
  by_cases hin : i < N 0
  · have hr := hrow i (by omega)
    have hS := hSm i (by omega)
    have hd := hdel i (by omega)
    have hgo' := hgo i (by omega)
    have hst' := hstay i (by omega)
    have hCi := hCl2 i
    have hgx := hg0 (m[i]'(by omega)).2
    generalize (m[i]'(by omega)).2 = x at *
    generalize (m[i]'(by omega)).1 = key at *
    (try conv=>whnf)<;>repeat'((first|exact sNo|refine sT ?_|refine sF ?_|refine wr ?_|refine ix ?_|refine ati ?_|refine row ?_|refine dr ?_|fail)<;>(try conv=>whnf))
    refine VLp.mk ⟨[], [5], [6, 24], fun k vs h => (vs = [.bool (allW b x 0), i64 0] ∧ h = [.blk 0 (i64 b.self :: i64 b.cn :: .lst (N i) (R i) :: i64 b.last :: hcE b) 137, .blk 1 (i64 key :: bunE x) 117] ∧ 0 ≤ b.cn ∧ k = 4) ∨ (vs = [.bool (allW b x 1), i64 1] ∧ h = [.blk 0 (i64 b.self :: i64 b.cn :: .lst (N i) (R i) :: i64 b.last :: hcE b) 137, .blk 1 (i64 key :: bunE x) 117] ∧ 1 ≤ b.cn ∧ k = 3) ∨ (vs = [.bool (allW b x 2), i64 2] ∧ h = [.blk 0 (i64 b.self :: i64 b.cn :: .lst (N i) (R i) :: i64 b.last :: hcE b) 137, .blk 1 (i64 key :: bunE x) 117] ∧ 2 ≤ b.cn ∧ k = 2) ∨ (vs = [.bool (allW b x 3), i64 3] ∧ h = [.blk 0 (i64 b.self :: i64 b.cn :: .lst (N i) (R i) :: i64 b.last :: hcE b) 137, .blk 1 (i64 key :: bunE x) 117] ∧ 3 ≤ b.cn ∧ k = 1) ∨ (vs = [.bool (allW b x 4), i64 4] ∧ h = [.blk 0 (i64 b.self :: i64 b.cn :: .lst (N i) (R i) :: i64 b.last :: hcE b) 137, .blk 1 (i64 key :: bunE x) 117] ∧ 4 ≤ b.cn ∧ k = 0), 4, ?_⟩
    conv => whnf
    refine ⟨.inl ⟨rfl, rfl, by omega, rfl⟩, ?_⟩
    rintro k vs h (⟨rfl, rfl, hj, rfl⟩ | ⟨rfl, rfl, hj, rfl⟩ | ⟨rfl, rfl, hj, rfl⟩ | ⟨rfl, rfl, hj, rfl⟩ | ⟨rfl, rfl, hj, rfl⟩)
    · by_cases hjc : 0 < b.cn
      · have hs : allW b x 1 = (allW b x 0 && (decide (((0 : Nat) : Int) = b.self) || knownB x (b.has ((0 : Nat) : Int)))) := rfl
        cases hA : allW b x 0
        · rw [hA] at hs
          (try conv=>whnf)<;>repeat'((first|exact sNo|refine sT ?_|refine sF ?_|refine wr ?_|refine ix ?_|refine ati ?_|refine row ?_|refine dr ?_|fail)<;>(try conv=>whnf))
          all_goals exact VRd.mk rfl ⟨3, by omega, .inr (.inl (⟨by rw [hs]; rfl, rfl, by omega, rfl⟩))⟩
        · rw [hA] at hs
          by_cases hse : 0 = b.self
          · rw [decide_eq_true (show (((0 : Nat) : Int) = b.self) from hse)] at hs
            (try conv=>whnf)<;>repeat'((first|exact sNo|refine sT ?_|refine sF ?_|refine wr ?_|refine ix ?_|refine ati ?_|refine row ?_|refine dr ?_|fail)<;>(try conv=>whnf))
            all_goals exact VRd.mk rfl ⟨3, by omega, .inr (.inl (⟨by rw [hs]; rfl, rfl, by omega, rfl⟩))⟩
          · rw [decide_eq_false (show ¬ (((0 : Nat) : Int) = b.self) from hse)] at hs
            cases hk : knownB x (b.has ((0 : Nat) : Int))
            all_goals
              have q1 := bknown_p hS hk
              rw [hk] at hs
              (try conv=>whnf)<;>repeat'((first|exact sNo|refine sT ?_|refine sF ?_|refine wr ?_|refine ix ?_|refine ati ?_|refine row ?_|refine dr ?_|refine cf q1 ?_|refine cg q1 ?_|refine cz q1 ?_|fail)<;>(try conv=>whnf))
              all_goals exact VRd.mk rfl ⟨3, by omega, .inr (.inl (⟨by rw [hs]; rfl, rfl, by omega, rfl⟩))⟩
      · have ec : b.cn.toNat = 0 := by omega
        rw [ec] at hgx
        cases hA : allW b x 0
        · obtain ⟨g1, g2, g3⟩ := hst' (hgx.trans hA)
          (try conv=>whnf)<;>repeat'((first|exact sNo|refine sT ?_|refine sF ?_|refine wr ?_|refine ix ?_|refine ati ?_|refine row ?_|refine dr ?_|fail)<;>(try conv=>whnf))
          all_goals exact VRd.mk rfl ⟨N 0 - (i + 1), by omega, i + 1, by rw [g1]; rfl, by rw [g2, g3] <;> rfl, by omega, rfl⟩
        · have g1 := hgo' (hgx.trans hA)
          have q2 := hd (hgx.trans hA)
          (try conv=>whnf)<;>repeat'((first|(refine drx [1007] [] [] ?_;(try conv=>whnf);(fail_if_success (show False)))|exact sNo|refine sT ?_|refine sF ?_|refine wr ?_|refine ix ?_|refine ati ?_|refine row ?_|refine dr ?_|refine cp q2 ?_|refine cf q2 ?_|refine cg q2 ?_|refine cz q2 ?_|fail)<;>(try conv=>whnf))
          all_goals exact VRd.mk rfl ⟨N 0 - (i + 1), by omega, i + 1, by rw [g1]; rfl, rfl, by omega, rfl⟩
    · by_cases hjc : 1 < b.cn
      · have hs : allW b x 2 = (allW b x 1 && (decide (((1 : Nat) : Int) = b.self) || knownB x (b.has ((1 : Nat) : Int)))) := rfl
        cases hA : allW b x 1
        · rw [hA] at hs
          (try conv=>whnf)<;>repeat'((first|exact sNo|refine sT ?_|refine sF ?_|refine wr ?_|refine ix ?_|refine ati ?_|refine row ?_|refine dr ?_|fail)<;>(try conv=>whnf))
          all_goals exact VRd.mk rfl ⟨2, by omega, .inr (.inr (.inl (⟨by rw [hs]; rfl, rfl, by omega, rfl⟩)))⟩
        · rw [hA] at hs
          by_cases hse : 1 = b.self
          · rw [decide_eq_true (show (((1 : Nat) : Int) = b.self) from hse)] at hs
            (try conv=>whnf)<;>repeat'((first|exact sNo|refine sT ?_|refine sF ?_|refine wr ?_|refine ix ?_|refine ati ?_|refine row ?_|refine dr ?_|fail)<;>(try conv=>whnf))
            all_goals exact VRd.mk rfl ⟨2, by omega, .inr (.inr (.inl (⟨by rw [hs]; rfl, rfl, by omega, rfl⟩)))⟩
          · rw [decide_eq_false (show ¬ (((1 : Nat) : Int) = b.self) from hse)] at hs
            cases hk : knownB x (b.has ((1 : Nat) : Int))
            all_goals
              have q1 := bknown_p hS hk
              rw [hk] at hs
              (try conv=>whnf)<;>repeat'((first|exact sNo|refine sT ?_|refine sF ?_|refine wr ?_|refine ix ?_|refine ati ?_|refine row ?_|refine dr ?_|refine cf q1 ?_|refine cg q1 ?_|refine cz q1 ?_|fail)<;>(try conv=>whnf))
              all_goals exact VRd.mk rfl ⟨2, by omega, .inr (.inr (.inl (⟨by rw [hs]; rfl, rfl, by omega, rfl⟩)))⟩
      · have ec : b.cn.toNat = 1 := by omega
        rw [ec] at hgx
        cases hA : allW b x 1
        · obtain ⟨g1, g2, g3⟩ := hst' (hgx.trans hA)
          (try conv=>whnf)<;>repeat'((first|exact sNo|refine sT ?_|refine sF ?_|refine wr ?_|refine ix ?_|refine ati ?_|refine row ?_|refine dr ?_|fail)<;>(try conv=>whnf))
          all_goals exact VRd.mk rfl ⟨N 0 - (i + 1), by omega, i + 1, by rw [g1]; rfl, by rw [g2, g3] <;> rfl, by omega, rfl⟩
        · have g1 := hgo' (hgx.trans hA)
          have q2 := hd (hgx.trans hA)
          (try conv=>whnf)<;>repeat'((first|(refine drx [1007] [] [] ?_;(try conv=>whnf);(fail_if_success (show False)))|exact sNo|refine sT ?_|refine sF ?_|refine wr ?_|refine ix ?_|refine ati ?_|refine row ?_|refine dr ?_|refine cp q2 ?_|refine cf q2 ?_|refine cg q2 ?_|refine cz q2 ?_|fail)<;>(try conv=>whnf))
          all_goals exact VRd.mk rfl ⟨N 0 - (i + 1), by omega, i + 1, by rw [g1]; rfl, rfl, by omega, rfl⟩
    · by_cases hjc : 2 < b.cn
      · have hs : allW b x 3 = (allW b x 2 && (decide (((2 : Nat) : Int) = b.self) || knownB x (b.has ((2 : Nat) : Int)))) := rfl
        cases hA : allW b x 2
        · rw [hA] at hs
          (try conv=>whnf)<;>repeat'((first|exact sNo|refine sT ?_|refine sF ?_|refine wr ?_|refine ix ?_|refine ati ?_|refine row ?_|refine dr ?_|fail)<;>(try conv=>whnf))
          all_goals exact VRd.mk rfl ⟨1, by omega, .inr (.inr (.inr (.inl (⟨by rw [hs]; rfl, rfl, by omega, rfl⟩))))⟩
        · rw [hA] at hs
          by_cases hse : 2 = b.self
          · rw [decide_eq_true (show (((2 : Nat) : Int) = b.self) from hse)] at hs
            (try conv=>whnf)<;>repeat'((first|exact sNo|refine sT ?_|refine sF ?_|refine wr ?_|refine ix ?_|refine ati ?_|refine row ?_|refine dr ?_|fail)<;>(try conv=>whnf))
            all_goals exact VRd.mk rfl ⟨1, by omega, .inr (.inr (.inr (.inl (⟨by rw [hs]; rfl, rfl, by omega, rfl⟩))))⟩
          · rw [decide_eq_false (show ¬ (((2 : Nat) : Int) = b.self) from hse)] at hs
            cases hk : knownB x (b.has ((2 : Nat) : Int))
            all_goals
              have q1 := bknown_p hS hk
              rw [hk] at hs
              (try conv=>whnf)<;>repeat'((first|exact sNo|refine sT ?_|refine sF ?_|refine wr ?_|refine ix ?_|refine ati ?_|refine row ?_|refine dr ?_|refine cf q1 ?_|refine cg q1 ?_|refine cz q1 ?_|fail)<;>(try conv=>whnf))
              all_goals exact VRd.mk rfl ⟨1, by omega, .inr (.inr (.inr (.inl (⟨by rw [hs]; rfl, rfl, by omega, rfl⟩))))⟩
      · have ec : b.cn.toNat = 2 := by omega
        rw [ec] at hgx
        cases hA : allW b x 2
        · obtain ⟨g1, g2, g3⟩ := hst' (hgx.trans hA)
          (try conv=>whnf)<;>repeat'((first|exact sNo|refine sT ?_|refine sF ?_|refine wr ?_|refine ix ?_|refine ati ?_|refine row ?_|refine dr ?_|fail)<;>(try conv=>whnf))
          all_goals exact VRd.mk rfl ⟨N 0 - (i + 1), by omega, i + 1, by rw [g1]; rfl, by rw [g2, g3] <;> rfl, by omega, rfl⟩
        · have g1 := hgo' (hgx.trans hA)
          have q2 := hd (hgx.trans hA)
          (try conv=>whnf)<;>repeat'((first|(refine drx [1007] [] [] ?_;(try conv=>whnf);(fail_if_success (show False)))|exact sNo|refine sT ?_|refine sF ?_|refine wr ?_|refine ix ?_|refine ati ?_|refine row ?_|refine dr ?_|refine cp q2 ?_|refine cf q2 ?_|refine cg q2 ?_|refine cz q2 ?_|fail)<;>(try conv=>whnf))
          all_goals exact VRd.mk rfl ⟨N 0 - (i + 1), by omega, i + 1, by rw [g1]; rfl, rfl, by omega, rfl⟩
    · by_cases hjc : 3 < b.cn
      · have hs : allW b x 4 = (allW b x 3 && (decide (((3 : Nat) : Int) = b.self) || knownB x (b.has ((3 : Nat) : Int)))) := rfl
        cases hA : allW b x 3
        · rw [hA] at hs
          (try conv=>whnf)<;>repeat'((first|exact sNo|refine sT ?_|refine sF ?_|refine wr ?_|refine ix ?_|refine ati ?_|refine row ?_|refine dr ?_|fail)<;>(try conv=>whnf))
          all_goals exact VRd.mk rfl ⟨0, by omega, .inr (.inr (.inr (.inr (⟨by rw [hs]; rfl, rfl, by omega, rfl⟩))))⟩
        · rw [hA] at hs
          by_cases hse : 3 = b.self
          · rw [decide_eq_true (show (((3 : Nat) : Int) = b.self) from hse)] at hs
            (try conv=>whnf)<;>repeat'((first|exact sNo|refine sT ?_|refine sF ?_|refine wr ?_|refine ix ?_|refine ati ?_|refine row ?_|refine dr ?_|fail)<;>(try conv=>whnf))
            all_goals exact VRd.mk rfl ⟨0, by omega, .inr (.inr (.inr (.inr (⟨by rw [hs]; rfl, rfl, by omega, rfl⟩))))⟩
          · rw [decide_eq_false (show ¬ (((3 : Nat) : Int) = b.self) from hse)] at hs
            cases hk : knownB x (b.has ((3 : Nat) : Int))
            all_goals
              have q1 := bknown_p hS hk
              rw [hk] at hs
              (try conv=>whnf)<;>repeat'((first|exact sNo|refine sT ?_|refine sF ?_|refine wr ?_|refine ix ?_|refine ati ?_|refine row ?_|refine dr ?_|refine cf q1 ?_|refine cg q1 ?_|refine cz q1 ?_|fail)<;>(try conv=>whnf))
              all_goals exact VRd.mk rfl ⟨0, by omega, .inr (.inr (.inr (.inr (⟨by rw [hs]; rfl, rfl, by omega, rfl⟩))))⟩
      · have ec : b.cn.toNat = 3 := by omega
        rw [ec] at hgx
        cases hA : allW b x 3
        · obtain ⟨g1, g2, g3⟩ := hst' (hgx.trans hA)
          (try conv=>whnf)<;>repeat'((first|exact sNo|refine sT ?_|refine sF ?_|refine wr ?_|refine ix ?_|refine ati ?_|refine row ?_|refine dr ?_|fail)<;>(try conv=>whnf))
          all_goals exact VRd.mk rfl ⟨N 0 - (i + 1), by omega, i + 1, by rw [g1]; rfl, by rw [g2, g3] <;> rfl, by omega, rfl⟩
        · have g1 := hgo' (hgx.trans hA)
          have q2 := hd (hgx.trans hA)
          (try conv=>whnf)<;>repeat'((first|(refine drx [1007] [] [] ?_;(try conv=>whnf);(fail_if_success (show False)))|exact sNo|refine sT ?_|refine sF ?_|refine wr ?_|refine ix ?_|refine ati ?_|refine row ?_|refine dr ?_|refine cp q2 ?_|refine cf q2 ?_|refine cg q2 ?_|refine cz q2 ?_|fail)<;>(try conv=>whnf))
          all_goals exact VRd.mk rfl ⟨N 0 - (i + 1), by omega, i + 1, by rw [g1]; rfl, rfl, by omega, rfl⟩
    · have ec : b.cn.toNat = 4 := by omega
      rw [ec] at hgx
      cases hA : allW b x 4
      · obtain ⟨g1, g2, g3⟩ := hst' (hgx.trans hA)
        (try conv=>whnf)<;>repeat'((first|exact sNo|refine sT ?_|refine sF ?_|refine wr ?_|refine ix ?_|refine ati ?_|refine row ?_|refine dr ?_|fail)<;>(try conv=>whnf))
        all_goals exact VRd.mk rfl ⟨N 0 - (i + 1), by omega, i + 1, by rw [g1]; rfl, by rw [g2, g3] <;> rfl, by omega, rfl⟩
      · have g1 := hgo' (hgx.trans hA)
        have q2 := hd (hgx.trans hA)
        (try conv=>whnf)<;>repeat'((first|(refine drx [1007] [] [] ?_;(try conv=>whnf);(fail_if_success (show False)))|exact sNo|refine sT ?_|refine sF ?_|refine wr ?_|refine ix ?_|refine ati ?_|refine row ?_|refine dr ?_|refine cp q2 ?_|refine cf q2 ?_|refine cg q2 ?_|refine cz q2 ?_|fail)<;>(try conv=>whnf))
        all_goals exact VRd.mk rfl ⟨N 0 - (i + 1), by omega, i + 1, by rw [g1]; rfl, rfl, by omega, rfl⟩
  · obtain rfl : i = N 0 := by omega
    (try conv=>whnf)<;>repeat'((first|exact sNo|refine sT ?_|refine sF ?_|refine wr ?_|refine ix ?_|refine ati ?_|refine row ?_|refine dr ?_|fail)<;>(try conv=>whnf))
    all_goals exact VRt.mk rfl ⟨rfl, rfl⟩
end Go.Proofs.YtlghgdgpbnlpmaaGreat
