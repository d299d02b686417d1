/- What is proved: chapter 23's law function GateDrains answers true. Conditions: none. -/
import Derived.Test.YtlghgdgpbnlpmaaGreatGo
namespace Go.Proofs.YtlghgdgpbnlpmaaGreat
open Go.RowKit
set_option linter.unusedVariables false
set_option linter.unusedSimpArgs false
set_option maxRecDepth 100000
set_option maxHeartbeats 16000000
theorem addG_le (g : List Bun) (b : Bun) : (addG g b).1.length ≤ g.length + 1 := by
  unfold addG
  split
  · split
    · exact Nat.le_succ _
    · split
      · exact Nat.le_succ _
      · show (insG b g).length ≤ _
        rw [insG_len]
        exact Nat.le_refl _
  · exact Nat.le_succ _
theorem addAll_GI : ∀ (n : Nat) (l : List Bun), l.length = n → (∀ b ∈ l, SmB b) → GI (addAll l) ∧ (addAll l).length ≤ l.length
  | 0, l, hn, _ => by
    obtain rfl := List.eq_nil_of_length_eq_zero hn
    exact ⟨GI.nil, Nat.le_refl _⟩
  | n + 1, l, hn, hS => by
    rcases nil_or_snoc l with rfl | ⟨m, b, rfl⟩
    · cases hn
    · rw [List.length_append, List.length_singleton] at hn
      obtain ⟨g1, g2⟩ := addAll_GI n m (by omega) fun x hx => hS x (List.mem_append_left _ hx)
      rw [addAll_snoc]
      refine ⟨g1.add (hS b (by simp)), ?_⟩
      have := addG_le (addAll m) b
      rw [List.length_append, List.length_singleton]
      omega
theorem addAll_take {l : List Bun} {i : Nat} (h : i < l.length) : addAll (l.take (i + 1)) = (addG (addAll (l.take i)) l[i]).1 := by rw [← take_snoc h, addAll_snoc]
/-- where nothing comes, nothing comes once more, and what waits is neither ready nor known -/
theorem restG_known {l : List Bun} {v : Int → Int} {b : Bun} (h : b ∈ restG l v) : knownB b v = false := by
  unfold restG at h
  have := (List.mem_filter.1 h).2
  simpa using this
theorem restG_rest (l : List Bun) (v : Int → Int) : restG (restG l v) v = restG l v := List.filter_eq_self.2 fun b hb => by rw [restG_known hb]; rfl
theorem next_no {l : List Bun} {v : Int → Int} (h : (nextG l v).2.2 = false) : (nextG l v).1 = restG l v ∧ (∀ b ∈ restG l v, readyB b v = false) ∧ nextG (restG l v) v = (restG l v, zeroB, false) := by
  have hn : ∀ b ∈ restG l v, readyB b v = false := by
    unfold nextG at h
    split at h
    · cases h
    · rename_i hf
      intro b hb
      have := List.findIdx?_eq_none_iff.1 hf b hb
      simpa using this
  have e : nextG l v = (restG l v, zeroB, false) := nextG_none fun j hj => hn _ (List.getElem_mem hj)
  refine ⟨by rw [e], hn, ?_⟩
  have := nextG_none (l := restG l v) (v := v) fun j hj => by
    have := List.getElem_mem hj
    refine hn _ ?_
    have h2 : ∀ x, x ∈ restG (restG l v) v → x ∈ restG l v := fun x hx => by rwa [restG_rest] at hx
    exact h2 _ this
  rw [this, restG_rest]
theorem next_yes {l : List Bun} (hG : GI l) {v : Int → Int} (h : (nextG l v).2.2 = true) : readyB (nextG l v).2.1 v = true ∧ (nextG l v).1.length + 1 ≤ l.length ∧ rightB (nextG l v).2.1 = true := by
  unfold nextG at h ⊢
  split at h
  · rename_i i hi
    obtain ⟨h1, h2, _⟩ := List.findIdx?_eq_some_iff_getElem.1 hi
    have e : (restG l v).getD i zeroB = (restG l v)[i] := by simp [List.getD_eq_getElem?_getD, h1]
    dsimp only
    rw [e]
    have := (restG_sub l v).length_le
    exact ⟨h2, by simp; omega, (hG.ok _ ((restG_sub l v).subset (List.getElem_mem h1))).1⟩
  · cases h
theorem beh_ne {b : Bun} {v : Int → Int} (h : readyB b v = true) : (behV v b 0 == v 0 && (behV v b 1 == v 1 && (behV v b 2 == v 2 && (behV v b 3 == v 3 && true)))) = false := by
  unfold readyB at h
  simp only [Bool.and_eq_true, decide_eq_true_eq] at h
  obtain ⟨hR, h1, _⟩ := h
  obtain ⟨⟨hd, a1, a2, a3, _⟩, _⟩ := right_nums hR
  have key : behV v b b.dc ≠ v b.dc := by
    unfold behV
    rw [setV_same]
    unfold mx
    split <;> omega
  rcases four_dn hd with ⟨hd', _⟩ | ⟨hd', _⟩ | ⟨hd', _⟩ | ⟨hd', _⟩ <;> rw [hd'] at key <;> simp [key]
theorem beh_up (v : Int → Int) (b : Bun) : atMost v (behV v b) = true := by
  refine atMost_iff.2 fun d h0 h4 => ?_
  unfold behV setV mxV mx
  split
  · rename_i hd
    subst hd
    split <;> split <;> omega
  · split <;> omega
theorem lawDrains_a (l : List Bun) (hb : ∀ b ∈ l, bndT b.t) (v : Int → Int) : AFnP Tryz.prog 5 [lstE bunE l, vecE v] (.bool true) := by
  refine afp ty_ok Tryz.call5 Tryz.func5 ?_
  have r0 := awake_a
  have m1 := rmay_a v
  cases hs : (decide (l.length ≤ 60) && l.all fun b => smallB b 30)
  · have s1 := rsmalls_p (n := 60) (by decide) hb hs
    (try conv=>whnf)<;>repeat'((first|exact sNo|refine sT ?_|refine sF ?_|((first|refine sD ?_ ?_|refine sE ?_ ?_|refine sN ?_ ?_|refine sG ?_ ?_)<;>intro ht<;>(first|(cases ht;done)|skip))|refine wr ?_|refine ix ?_|refine ati ?_|refine row ?_|refine app ?_|refine dr ?_|refine VAnd.mk ?_ ?_|exact VJe.mk rfl ⟨rfl,rfl⟩|refine .inl (slM ?_)|refine .inl (slO ?_)|refine slM ?_|refine slO ?_|refine slN ?_|refine slS ?_|refine swB (swM fun C hC=>?_)|refine sj ?_|refine .inl (sv ?_)|refine sv ?_|refine cl ?_|refine s3 ?_|refine az ?_|refine rm ?_|refine cf r0 ?_|refine cg r0 ?_|refine cz r0 ?_|refine cf s1 ?_|refine cg s1 ?_|refine cz s1 ?_|fail)<;>(try conv=>whnf))
    all_goals rfl
  have s1 := rsmalls_p (n := 60) (by decide) hb hs
  cases hm : mayV v
  · rw [hm] at m1
    (try conv=>whnf)<;>repeat'((first|exact sNo|refine sT ?_|refine sF ?_|((first|refine sD ?_ ?_|refine sE ?_ ?_|refine sN ?_ ?_|refine sG ?_ ?_)<;>intro ht<;>(first|(cases ht;done)|skip))|refine wr ?_|refine ix ?_|refine ati ?_|refine row ?_|refine app ?_|refine dr ?_|refine VAnd.mk ?_ ?_|exact VJe.mk rfl ⟨rfl,rfl⟩|refine .inl (slM ?_)|refine .inl (slO ?_)|refine slM ?_|refine slO ?_|refine slN ?_|refine slS ?_|refine swB (swM fun C hC=>?_)|refine sj ?_|refine .inl (sv ?_)|refine sv ?_|refine cl ?_|refine s3 ?_|refine az ?_|refine rm ?_|refine cf r0 ?_|refine cg r0 ?_|refine cz r0 ?_|refine cf s1 ?_|refine cg s1 ?_|refine cz s1 ?_|refine cf m1 ?_|refine cg m1 ?_|refine cz m1 ?_|fail)<;>(try conv=>whnf))
    all_goals rfl
  rw [hm] at m1
  rw [Bool.and_eq_true, decide_eq_true_eq] at hs
  obtain ⟨h60, hs⟩ := hs
  have hS : ∀ b ∈ l, SmB b := fun b h => small_SmB (n := 30) (by decide) (List.all_eq_true.1 hs b h)
  clear hs
  have ga := fun (i : Nat) => addAll_GI _ (l.take i) rfl fun b hb => hS b (List.mem_of_mem_take hb)
  (try conv=>whnf)<;>repeat'((first|exact sNo|refine sT ?_|refine sF ?_|((first|refine sD ?_ ?_|refine sE ?_ ?_|refine sN ?_ ?_|refine sG ?_ ?_)<;>intro ht<;>(first|(cases ht;done)|skip))|refine wr ?_|refine ix ?_|refine ati ?_|refine row ?_|refine app ?_|refine dr ?_|refine VAnd.mk ?_ ?_|exact VJe.mk rfl ⟨rfl,rfl⟩|refine .inl (slM ?_)|refine .inl (slO ?_)|refine slM ?_|refine slO ?_|refine slN ?_|refine slS ?_|refine swB (swM fun C hC=>?_)|refine sj ?_|refine .inl (sv ?_)|refine sv ?_|refine cl ?_|refine s3 ?_|refine az ?_|refine rm ?_|refine cf r0 ?_|refine cg r0 ?_|refine cz r0 ?_|refine cf s1 ?_|refine cg s1 ?_|refine cz s1 ?_|refine cf m1 ?_|refine cg m1 ?_|refine cz m1 ?_|fail)<;>(try conv=>whnf))
  refine VLp.mk ⟨[.flat 1 0], [3, 5], [6, 32], fun k vs h => ∃ i : Nat, vs = [i64 (addAll (l.take i)).length, i64 i] ∧ h = [.blk 0 [i64 (v 0), i64 (v 1), i64 (v 2), i64 (v 3)] 33, gB 1 (addAll (l.take i))] ∧ i ≤ l.length ∧ k = l.length - i, l.length, ?_⟩
  conv => whnf
  refine ⟨⟨0, rfl, rfl, by omega, by omega⟩, ?_⟩
  rintro k vs h ⟨i, rfl, rfl, hi, rfl⟩
  by_cases hin : i < l.length
  · obtain ⟨g1, g2⟩ := ga i
    rw [List.length_take] at g2
    have hSi := hS _ (List.getElem_mem hin)
    have e := addAll_take hin
    have q1 := gadd_o (addAll (l.take i)) l[i] g1 (by omega) hSi
    cases hR : rightB l[i]
    · have q2 := rright_p hSi hR
      rw [addG_no hR] at q1 e
      dsimp only at q1 e
      generalize addAll (l.take i) = g at *
      (try conv=>whnf)<;>repeat'((first|exact sNo|refine sT ?_|refine sF ?_|((first|refine sD ?_ ?_|refine sE ?_ ?_|refine sN ?_ ?_|refine sG ?_ ?_)<;>intro ht<;>(first|(cases ht;done)|skip))|refine wr ?_|refine ix ?_|refine ati ?_|refine row ?_|refine app ?_|refine dr ?_|refine VAnd.mk ?_ ?_|exact VJe.mk rfl ⟨rfl,rfl⟩|refine .inl (slM ?_)|refine .inl (slO ?_)|refine slM ?_|refine slO ?_|refine slN ?_|refine slS ?_|refine swB (swM fun C hC=>?_)|refine sj ?_|refine .inl (sv ?_)|refine sv ?_|refine cl ?_|refine s3 ?_|refine az ?_|refine rm ?_|(refine co q1 ?_;rintro r h' ⟨rfl,rfl⟩)|refine cf q2 ?_|refine cg q2 ?_|refine cz q2 ?_|fail)<;>(try conv=>whnf))
      all_goals exact VRd.mk rfl ⟨l.length - (i + 1), by omega, i + 1, by rw [e]; rfl, by rw [e], by omega, rfl⟩
    · have q2 := rright_p hSi hR
      cases hF : fndG l[i] (addAll (l.take i))
      · rw [addG_in hR hF (by omega)] at q1 e
        dsimp only at q1 e
        have el := insG_len l[i] (addAll (l.take i))
        generalize addAll (l.take i) = g at *
        generalize insG l[i] g = g' at *
        (try conv=>whnf)<;>repeat'((first|exact sNo|refine sT ?_|refine sF ?_|((first|refine sD ?_ ?_|refine sE ?_ ?_|refine sN ?_ ?_|refine sG ?_ ?_)<;>intro ht<;>(first|(cases ht;done)|skip))|refine wr ?_|refine ix ?_|refine ati ?_|refine row ?_|refine app ?_|refine dr ?_|refine VAnd.mk ?_ ?_|exact VJe.mk rfl ⟨rfl,rfl⟩|refine .inl (slM ?_)|refine .inl (slO ?_)|refine slM ?_|refine slO ?_|refine slN ?_|refine slS ?_|refine swB (swM fun C hC=>?_)|refine sj ?_|refine .inl (sv ?_)|refine sv ?_|refine cl ?_|refine s3 ?_|refine az ?_|refine rm ?_|(refine co q1 ?_;rintro r h' ⟨rfl,rfl⟩)|refine cf q2 ?_|refine cg q2 ?_|refine cz q2 ?_|fail)<;>(try conv=>whnf))
        all_goals exact VRd.mk rfl ⟨l.length - (i + 1), by omega, i + 1, by rw [e, el]; rfl, by rw [e], by omega, rfl⟩
      · rw [addG_there hR hF] at q1 e
        dsimp only at q1 e
        generalize addAll (l.take i) = g at *
        (try conv=>whnf)<;>repeat'((first|exact sNo|refine sT ?_|refine sF ?_|((first|refine sD ?_ ?_|refine sE ?_ ?_|refine sN ?_ ?_|refine sG ?_ ?_)<;>intro ht<;>(first|(cases ht;done)|skip))|refine wr ?_|refine ix ?_|refine ati ?_|refine row ?_|refine app ?_|refine dr ?_|refine VAnd.mk ?_ ?_|exact VJe.mk rfl ⟨rfl,rfl⟩|refine .inl (slM ?_)|refine .inl (slO ?_)|refine slM ?_|refine slO ?_|refine slN ?_|refine slS ?_|refine swB (swM fun C hC=>?_)|refine sj ?_|refine .inl (sv ?_)|refine sv ?_|refine cl ?_|refine s3 ?_|refine az ?_|refine rm ?_|(refine co q1 ?_;rintro r h' ⟨rfl,rfl⟩)|refine cf q2 ?_|refine cg q2 ?_|refine cz q2 ?_|fail)<;>(try conv=>whnf))
        all_goals exact VRd.mk rfl ⟨l.length - (i + 1), by omega, i + 1, by rw [e]; rfl, by rw [e], by omega, rfl⟩
  · obtain rfl : i = l.length := by omega
    rw [List.take_length]
    obtain ⟨g1, g2⟩ := ga l.length
    rw [List.take_length] at g1 g2
    have q0 := glen_a (addAll l)
    clear ga hS hm
    generalize addAll l = g0 at *
    (try conv=>whnf)<;>repeat'((first|exact sNo|refine sT ?_|refine sF ?_|((first|refine sD ?_ ?_|refine sE ?_ ?_|refine sN ?_ ?_|refine sG ?_ ?_)<;>intro ht<;>(first|(cases ht;done)|skip))|refine wr ?_|refine ix ?_|refine ati ?_|refine row ?_|refine app ?_|refine dr ?_|refine VAnd.mk ?_ ?_|exact VJe.mk rfl ⟨rfl,rfl⟩|refine .inl (slM ?_)|refine .inl (slO ?_)|refine slM ?_|refine slO ?_|refine slN ?_|refine slS ?_|refine swB (swM fun C hC=>?_)|refine sj ?_|refine .inl (sv ?_)|refine sv ?_|refine cl ?_|refine s3 ?_|refine az ?_|refine rm ?_|refine cf q0 ?_|refine cg q0 ?_|refine cz q0 ?_|fail)<;>(try conv=>whnf))
    refine VLp.mk ⟨[], [3, 5], [66], fun k vs h => ∃ (i : Nat) (g : List Bun) (u : Int → Int), vs = [i64 i] ∧ h = [.blk 0 [i64 (u 0), i64 (u 1), i64 (u 2), i64 (u 3)] 33, gB 1 g] ∧ i ≤ g0.length ∧ k = g0.length - i ∧ GI g ∧ i + g.length ≤ g0.length, g0.length, ?_⟩
    conv => whnf
    refine ⟨⟨0, g0, v, rfl, rfl, by omega, by omega, g1, by omega⟩, ?_⟩
    rintro k vs h ⟨i, g, u, rfl, rfl, hi, rfl, hG, hgl⟩
    by_cases hin : i < g0.length
    · have q1 := gnext_o g u hG (by omega)
      cases hn : (nextG g u).2.2
      · obtain ⟨n1, n2, n3⟩ := next_no hn
        have n4 := nextG_false hn
        rw [hn, n4, n1] at q1
        unfold outE at q1
        dsimp only at q1
        have hG2 := hG.sub (restG_sub g u)
        have hl2 := (restG_sub g u).length_le
        have hR2 : ∀ b ∈ restG g u, readyB b u = false ∧ knownB b u = false := fun b hb => ⟨n2 b hb, restG_known hb⟩
        clear n1 n2 n4 hn hG
        generalize restG g u = g' at *
        have q2 := gnext_o g' u hG2 (by omega)
        rw [n3] at q2
        unfold outE at q2
        dsimp only at q2
        have q3 := gall_o g' hG2 (by omega)
        (try conv=>whnf)<;>repeat'((first|exact sNo|refine sT ?_|refine sF ?_|((first|refine sD ?_ ?_|refine sE ?_ ?_|refine sN ?_ ?_|refine sG ?_ ?_)<;>intro ht<;>(first|(cases ht;done)|skip))|refine wr ?_|refine ix ?_|refine ati ?_|refine row ?_|refine app ?_|refine dr ?_|refine VAnd.mk ?_ ?_|exact VJe.mk rfl ⟨rfl,rfl⟩|refine .inl (slM ?_)|refine .inl (slO ?_)|refine slM ?_|refine slO ?_|refine slN ?_|refine slS ?_|refine swB (swM fun C hC=>?_)|refine sj ?_|refine .inl (sv ?_)|refine sv ?_|refine cl ?_|refine s3 ?_|refine az ?_|refine rm ?_|(refine co q1 ?_;rintro r h' ⟨rfl,rfl⟩)|(refine co q2 ?_;rintro r h' ⟨rfl,rfl⟩)|(refine co q3 ?_;rintro r h' ⟨rfl,rfl⟩)|fail)<;>(try conv=>whnf))
        refine VLp.mk ⟨[], [3, 15], [102], fun k vs h => ∃ i : Nat, vs = [i64 i] ∧ h = [.blk 0 [i64 (u 0), i64 (u 1), i64 (u 2), i64 (u 3)] 33, .row 1 50 10 ((g').map bunE)] ∧ i ≤ (g').length ∧ k = (g').length - i, (g').length, ?_⟩
        conv => whnf
        refine ⟨⟨0, rfl, rfl, by omega, by omega⟩, ?_⟩
        rintro k vs h ⟨i, rfl, rfl, hi, rfl⟩
        by_cases hin : i < (g').length
        · have hS3 := (hG2.ok _ (List.getElem_mem hin)).2
          have q4 := bready_p hS3 (hR2 _ (List.getElem_mem hin)).1
          have q5 := bknown_p hS3 (hR2 _ (List.getElem_mem hin)).2
          (try conv=>whnf)<;>repeat'((first|exact sNo|refine sT ?_|refine sF ?_|((first|refine sD ?_ ?_|refine sE ?_ ?_|refine sN ?_ ?_|refine sG ?_ ?_)<;>intro ht<;>(first|(cases ht;done)|skip))|refine wr ?_|refine ix ?_|refine ati ?_|refine row ?_|refine app ?_|refine dr ?_|refine VAnd.mk ?_ ?_|exact VJe.mk rfl ⟨rfl,rfl⟩|refine .inl (slM ?_)|refine .inl (slO ?_)|refine slM ?_|refine slO ?_|refine slN ?_|refine slS ?_|refine swB (swM fun C hC=>?_)|refine sj ?_|refine .inl (sv ?_)|refine sv ?_|refine cl ?_|refine s3 ?_|refine az ?_|refine rm ?_|refine cf q4 ?_|refine cg q4 ?_|refine cz q4 ?_|refine cf q5 ?_|refine cg q5 ?_|refine cz q5 ?_|fail)<;>(try conv=>whnf))
          all_goals exact VRd.mk rfl ⟨(g').length - (i + 1), by omega, i + 1, rfl, rfl, by omega, rfl⟩
        · (try conv=>whnf)<;>repeat'((first|exact sNo|refine sT ?_|refine sF ?_|((first|refine sD ?_ ?_|refine sE ?_ ?_|refine sN ?_ ?_|refine sG ?_ ?_)<;>intro ht<;>(first|(cases ht;done)|skip))|refine wr ?_|refine ix ?_|refine ati ?_|refine row ?_|refine app ?_|refine dr ?_|refine VAnd.mk ?_ ?_|exact VJe.mk rfl ⟨rfl,rfl⟩|refine .inl (slM ?_)|refine .inl (slO ?_)|refine slM ?_|refine slO ?_|refine slN ?_|refine slS ?_|refine swB (swM fun C hC=>?_)|refine sj ?_|refine .inl (sv ?_)|refine sv ?_|refine cl ?_|refine s3 ?_|refine az ?_|refine rm ?_|fail)<;>(try conv=>whnf))
          all_goals rfl
      · obtain ⟨n1, n2, n3⟩ := next_yes hG hn
        have hG2 := hG.next u
        have hSb := nextG_Sm hG u
        rw [hn] at q1
        unfold outE at q1
        dsimp only at q1
        have q2 := bready_p hSb n1
        have q3 := bbehind_a (nextG g u).2.1 hSb n3 u
        have hne := beh_ne n1
        have q4 := ratmost_a u (behV u (nextG g u).2.1)
        rw [beh_up] at q4
        generalize (nextG g u).1 = g' at *
        generalize behV u (nextG g u).2.1 = u' at *
        generalize (nextG g u).2.1 = b at *
        (try conv=>whnf)<;>repeat'((first|exact sNo|refine sT ?_|refine sF ?_|((first|refine sD ?_ ?_|refine sE ?_ ?_|refine sN ?_ ?_|refine sG ?_ ?_)<;>intro ht<;>(first|(cases ht;done)|skip))|refine wr ?_|refine ix ?_|refine ati ?_|refine row ?_|refine app ?_|refine dr ?_|refine VAnd.mk ?_ ?_|exact VJe.mk rfl ⟨rfl,rfl⟩|refine .inl (slM ?_)|refine .inl (slO ?_)|refine slM ?_|refine slO ?_|refine slN ?_|refine slS ?_|refine swB (swM fun C hC=>?_)|refine sj ?_|refine .inl (sv ?_)|refine sv ?_|refine cl ?_|refine s3 ?_|refine az ?_|refine rm ?_|(refine co q1 ?_;rintro r h' ⟨rfl,rfl⟩)|refine cf q2 ?_|refine cg q2 ?_|refine cz q2 ?_|refine cf q3 ?_|refine cg q3 ?_|refine cz q3 ?_|refine cf q4 ?_|refine cg q4 ?_|refine cz q4 ?_|fail)<;>(try conv=>whnf))
        all_goals exact VRd.mk rfl ⟨g0.length - (i + 1), by omega, i + 1, g', u', rfl, rfl, by omega, rfl, hG2, by omega⟩
    · obtain rfl := List.eq_nil_of_length_eq_zero (show g.length = 0 by omega)
      have n3 : nextG [] u = ([], zeroB, false) := rfl
      have hR2 : ∀ b ∈ ([] : List Bun), readyB b u = false ∧ knownB b u = false := fun b hb => by cases hb
      have q2 := gnext_o ([] : List Bun) u GI.nil (by omega)
      rw [n3] at q2
      unfold outE at q2
      dsimp only at q2
      have q3 := gall_o ([] : List Bun) GI.nil (by omega)
      (try conv=>whnf)<;>repeat'((first|exact sNo|refine sT ?_|refine sF ?_|((first|refine sD ?_ ?_|refine sE ?_ ?_|refine sN ?_ ?_|refine sG ?_ ?_)<;>intro ht<;>(first|(cases ht;done)|skip))|refine wr ?_|refine ix ?_|refine ati ?_|refine row ?_|refine app ?_|refine dr ?_|refine VAnd.mk ?_ ?_|exact VJe.mk rfl ⟨rfl,rfl⟩|refine .inl (slM ?_)|refine .inl (slO ?_)|refine slM ?_|refine slO ?_|refine slN ?_|refine slS ?_|refine swB (swM fun C hC=>?_)|refine sj ?_|refine .inl (sv ?_)|refine sv ?_|refine cl ?_|refine s3 ?_|refine az ?_|refine rm ?_|(refine co q2 ?_;rintro r h' ⟨rfl,rfl⟩)|(refine co q3 ?_;rintro r h' ⟨rfl,rfl⟩)|fail)<;>(try conv=>whnf))
      refine VLp.mk ⟨[], [3, 15], [102], fun k vs h => ∃ i : Nat, vs = [i64 i] ∧ h = [.blk 0 [i64 (u 0), i64 (u 1), i64 (u 2), i64 (u 3)] 33, .row 1 50 10 ((([] : List Bun)).map bunE)] ∧ i ≤ (([] : List Bun)).length ∧ k = (([] : List Bun)).length - i, (([] : List Bun)).length, ?_⟩
      conv => whnf
      refine ⟨⟨0, rfl, rfl, by omega, by omega⟩, ?_⟩
      rintro k vs h ⟨i, rfl, rfl, hi, rfl⟩
      by_cases hin : i < (([] : List Bun)).length
      · have hS3 := (GI.nil.ok _ (List.getElem_mem hin)).2
        have q4 := bready_p hS3 (hR2 _ (List.getElem_mem hin)).1
        have q5 := bknown_p hS3 (hR2 _ (List.getElem_mem hin)).2
        (try conv=>whnf)<;>repeat'((first|exact sNo|refine sT ?_|refine sF ?_|((first|refine sD ?_ ?_|refine sE ?_ ?_|refine sN ?_ ?_|refine sG ?_ ?_)<;>intro ht<;>(first|(cases ht;done)|skip))|refine wr ?_|refine ix ?_|refine ati ?_|refine row ?_|refine app ?_|refine dr ?_|refine VAnd.mk ?_ ?_|exact VJe.mk rfl ⟨rfl,rfl⟩|refine .inl (slM ?_)|refine .inl (slO ?_)|refine slM ?_|refine slO ?_|refine slN ?_|refine slS ?_|refine swB (swM fun C hC=>?_)|refine sj ?_|refine .inl (sv ?_)|refine sv ?_|refine cl ?_|refine s3 ?_|refine az ?_|refine rm ?_|refine cf q4 ?_|refine cg q4 ?_|refine cz q4 ?_|refine cf q5 ?_|refine cg q5 ?_|refine cz q5 ?_|fail)<;>(try conv=>whnf))
        all_goals exact VRd.mk rfl ⟨(([] : List Bun)).length - (i + 1), by omega, i + 1, rfl, rfl, by omega, rfl⟩
      · (try conv=>whnf)<;>repeat'((first|exact sNo|refine sT ?_|refine sF ?_|((first|refine sD ?_ ?_|refine sE ?_ ?_|refine sN ?_ ?_|refine sG ?_ ?_)<;>intro ht<;>(first|(cases ht;done)|skip))|refine wr ?_|refine ix ?_|refine ati ?_|refine row ?_|refine app ?_|refine dr ?_|refine VAnd.mk ?_ ?_|exact VJe.mk rfl ⟨rfl,rfl⟩|refine .inl (slM ?_)|refine .inl (slO ?_)|refine slM ?_|refine slO ?_|refine slN ?_|refine slS ?_|refine swB (swM fun C hC=>?_)|refine sj ?_|refine .inl (sv ?_)|refine sv ?_|refine cl ?_|refine s3 ?_|refine az ?_|refine rm ?_|fail)<;>(try conv=>whnf))
        all_goals rfl
end Go.Proofs.YtlghgdgpbnlpmaaGreat
