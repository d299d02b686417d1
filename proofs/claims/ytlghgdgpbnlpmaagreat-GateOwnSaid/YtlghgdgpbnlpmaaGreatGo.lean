/- What is proved: chapter 23's law function GateOrder answers true. Conditions: none. -/
import Derived.Test.YtlghgdgpbnlpmaaGreatGk
import Derived.Test.YtlghgdgpbnlpmaaGreatGj
import Derived.Test.YtlghgdgpbnlpmaaGreatGoa
namespace Go.Proofs.YtlghgdgpbnlpmaaGreat
open Go.RowKit
set_option linter.unusedVariables false
set_option linter.unusedSimpArgs false
set_option maxRecDepth 100000
set_option maxHeartbeats 16000000
theorem rsmalls_a (l : List Bun) (n : Nat) (hn : n ≤ 100) (hb : ∀ b ∈ l, bndT b.t) : AFnP Tryz.prog 23 [lstE bunE l, i64 (n : Int)] (.bool (decide (l.length ≤ n) && l.all fun b => smallB b 30)) := by
  refine afp ty_ok Tryz.call23 Tryz.func23 ?_
  by_cases h : l.length ≤ n
  · rw [decide_eq_true h]
    (try conv=>whnf)<;>repeat'((first|exact sNo|refine sT ?_|refine sF ?_|((first|refine sD ?_ ?_|refine sE ?_ ?_|refine sN ?_ ?_|refine sG ?_ ?_)<;>intro ht<;>(first|(cases ht;done)|skip))|refine wr ?_|refine ix ?_|refine ati ?_|refine row ?_|refine app ?_|refine dr ?_|refine VAnd.mk ?_ ?_|exact VJe.mk rfl ⟨rfl,rfl⟩|refine .inl (slM ?_)|refine .inl (slO ?_)|refine slM ?_|refine slO ?_|refine slN ?_|refine slS ?_|refine swB (swM fun C hC=>?_)|refine sj ?_|refine .inl (sv ?_)|refine sv ?_|refine cl ?_|refine s3 ?_|refine az ?_|refine rm ?_|refine VBs.own ?_|fail)<;>(try conv=>whnf))
    refine VLp.mk ⟨[], [], [12], fun k vs h => ∃ i : Nat, vs = [i64 i] ∧ h = [] ∧ i ≤ l.length ∧ k = l.length - i ∧ ∀ j (hj : j < i) (hjl : j < l.length), smallB l[j] 30 = true, l.length, ?_⟩
    conv => whnf
    refine ⟨⟨0, rfl, rfl, by omega, by omega, fun j hj => by omega⟩, ?_⟩
    rintro k vs h ⟨i, rfl, rfl, hi, rfl, hg⟩
    by_cases hin : i < l.length
    · cases hs : smallB l[i] 30
      · have s1 := rsmall_B l[i] 30 (by decide) (hb _ (List.getElem_mem hin)) hs
        have e : (l.all fun b => smallB b 30) = false := List.all_eq_false.2 ⟨l[i], List.getElem_mem hin, by rw [hs]; decide⟩
        rw [e]
        (try conv=>whnf)<;>repeat'((first|exact sNo|refine sT ?_|refine sF ?_|((first|refine sD ?_ ?_|refine sE ?_ ?_|refine sN ?_ ?_|refine sG ?_ ?_)<;>intro ht<;>(first|(cases ht;done)|skip))|refine wr ?_|refine ix ?_|refine ati ?_|refine row ?_|refine app ?_|refine dr ?_|refine VAnd.mk ?_ ?_|exact VJe.mk rfl ⟨rfl,rfl⟩|refine .inl (slM ?_)|refine .inl (slO ?_)|refine slM ?_|refine slO ?_|refine slN ?_|refine slS ?_|refine swB (swM fun C hC=>?_)|refine sj ?_|refine .inl (sv ?_)|refine sv ?_|refine cl ?_|refine s3 ?_|refine az ?_|refine rm ?_|refine VBs.own ?_|refine cf s1 ?_|refine cg s1 ?_|refine cz s1 ?_|fail)<;>(try conv=>whnf))
        all_goals rfl
      · have s1 := rsmall_B l[i] 30 (by decide) (hb _ (List.getElem_mem hin)) hs
        (try conv=>whnf)<;>repeat'((first|exact sNo|refine sT ?_|refine sF ?_|((first|refine sD ?_ ?_|refine sE ?_ ?_|refine sN ?_ ?_|refine sG ?_ ?_)<;>intro ht<;>(first|(cases ht;done)|skip))|refine wr ?_|refine ix ?_|refine ati ?_|refine row ?_|refine app ?_|refine dr ?_|refine VAnd.mk ?_ ?_|exact VJe.mk rfl ⟨rfl,rfl⟩|refine .inl (slM ?_)|refine .inl (slO ?_)|refine slM ?_|refine slO ?_|refine slN ?_|refine slS ?_|refine swB (swM fun C hC=>?_)|refine sj ?_|refine .inl (sv ?_)|refine sv ?_|refine cl ?_|refine s3 ?_|refine az ?_|refine rm ?_|refine VBs.own ?_|refine cf s1 ?_|refine cg s1 ?_|refine cz s1 ?_|fail)<;>(try conv=>whnf))
        all_goals exact VRd.mk rfl ⟨l.length - (i + 1), by omega, i + 1, rfl, rfl, by omega, rfl, fun j hj hjl => by rcases Nat.lt_succ_iff_lt_or_eq.1 hj with h | rfl; exact hg j h hjl; exact hs⟩
    · have e : (l.all fun b => smallB b 30) = true := List.all_eq_true.2 fun x hx => by
        obtain ⟨j, hj, rfl⟩ := List.getElem_of_mem hx
        exact hg j (by omega) hj
      rw [e]
      (try conv=>whnf)<;>repeat'((first|exact sNo|refine sT ?_|refine sF ?_|((first|refine sD ?_ ?_|refine sE ?_ ?_|refine sN ?_ ?_|refine sG ?_ ?_)<;>intro ht<;>(first|(cases ht;done)|skip))|refine wr ?_|refine ix ?_|refine ati ?_|refine row ?_|refine app ?_|refine dr ?_|refine VAnd.mk ?_ ?_|exact VJe.mk rfl ⟨rfl,rfl⟩|refine .inl (slM ?_)|refine .inl (slO ?_)|refine slM ?_|refine slO ?_|refine slN ?_|refine slS ?_|refine swB (swM fun C hC=>?_)|refine sj ?_|refine .inl (sv ?_)|refine sv ?_|refine cl ?_|refine s3 ?_|refine az ?_|refine rm ?_|refine VBs.own ?_|fail)<;>(try conv=>whnf))
      all_goals rfl
  · rw [decide_eq_false h]
    (try conv=>whnf)<;>repeat'((first|exact sNo|refine sT ?_|refine sF ?_|((first|refine sD ?_ ?_|refine sE ?_ ?_|refine sN ?_ ?_|refine sG ?_ ?_)<;>intro ht<;>(first|(cases ht;done)|skip))|refine wr ?_|refine ix ?_|refine ati ?_|refine row ?_|refine app ?_|refine dr ?_|refine VAnd.mk ?_ ?_|exact VJe.mk rfl ⟨rfl,rfl⟩|refine .inl (slM ?_)|refine .inl (slO ?_)|refine slM ?_|refine slO ?_|refine slN ?_|refine slS ?_|refine swB (swM fun C hC=>?_)|refine sj ?_|refine .inl (sv ?_)|refine sv ?_|refine cl ?_|refine s3 ?_|refine az ?_|refine rm ?_|refine VBs.own ?_|fail)<;>(try conv=>whnf))
    all_goals rfl
theorem rsmalls_p {l : List Bun} {n : Nat} (hn : n ≤ 100) (hb : ∀ b ∈ l, bndT b.t) {t : Bool} (h : (decide (l.length ≤ n) && l.all fun b => smallB b 30) = t) : AFnP Tryz.prog 23 [lstE bunE l, i64 (n : Int)] (.bool t) := by subst h; exact rsmalls_a l n hn hb
def placeB (a b : Bun) : Prop := a.dc = b.dc ∧ a.af = b.af
theorem nd_of {l : List Bun} (hR : ∀ b ∈ l, rightB b = true) (hP : ∀ i j (hi : i < l.length) (hj : j < l.length), i < j → ¬ (l[i].dc = l[j].dc ∧ l[i].af = l[j].af)) : (l.map keyB).Nodup := by
  unfold List.Nodup
  rw [List.pairwise_iff_getElem]
  intro i j hi hj hij e
  rw [List.length_map] at hi hj
  rw [List.getElem_map, List.getElem_map] at e
  exact hP i j hi hj hij ((key_eq (hR _ (List.getElem_mem hi)) (hR _ (List.getElem_mem hj))).1 e)
theorem rises_GI {l : List Bun} (h : GI l) {i : Nat} (h0 : 0 < i) (hi : i < l.length) : l[i - 1].dc < l[i].dc ∨ (l[i - 1].dc = l[i].dc ∧ l[i - 1].af < l[i].af) := by
  have h1 := List.pairwise_iff_getElem.1 h.srt (i - 1) i (by rw [gm_len]; omega) (by rw [gm_len]; exact hi) (by omega)
  rw [gm_get, gm_get] at h1
  exact (key_lt (h.ok _ (List.getElem_mem _)).1 (h.ok _ (List.getElem_mem _)).1).1 (by simpa [ltI] using h1)
theorem lawOrder_a (l : List Bun) (hb : ∀ b ∈ l, bndT b.t) : AFnP Tryz.prog 6 [lstE bunE l] (.bool true) := by
  refine afp ty_ok Tryz.call6 Tryz.func6 ?_
  have r0 := awake_a
  cases hs : (decide (l.length ≤ 40) && l.all fun b => smallB b 30)
  · have s1 := rsmalls_p (n := 40) (by decide) hb hs
    (try conv=>whnf)<;>repeat'((first|exact sNo|refine sT ?_|refine sF ?_|((first|refine sD ?_ ?_|refine sE ?_ ?_|refine sN ?_ ?_|refine sG ?_ ?_)<;>intro ht<;>(first|(cases ht;done)|skip))|refine wr ?_|refine ix ?_|refine ati ?_|refine row ?_|refine app ?_|refine dr ?_|refine VAnd.mk ?_ ?_|exact VJe.mk rfl ⟨rfl,rfl⟩|refine .inl (slM ?_)|refine .inl (slO ?_)|refine slM ?_|refine slO ?_|refine slN ?_|refine slS ?_|refine swB (swM fun C hC=>?_)|refine sj ?_|refine .inl (sv ?_)|refine sv ?_|refine cl ?_|refine s3 ?_|refine az ?_|refine rm ?_|refine VBs.own ?_|refine cf r0 ?_|refine cg r0 ?_|refine cz r0 ?_|refine cf s1 ?_|refine cg s1 ?_|refine cz s1 ?_|fail)<;>(try conv=>whnf))
    all_goals rfl
  have s1 := rsmalls_p (n := 40) (by decide) hb hs
  rw [Bool.and_eq_true, decide_eq_true_eq] at hs
  obtain ⟨h40, hs⟩ := hs
  have hS : ∀ b ∈ l, SmB b := fun b h => small_SmB (n := 30) (by decide) (List.all_eq_true.1 hs b h)
  clear hs
  (try conv=>whnf)<;>repeat'((first|exact sNo|refine sT ?_|refine sF ?_|((first|refine sD ?_ ?_|refine sE ?_ ?_|refine sN ?_ ?_|refine sG ?_ ?_)<;>intro ht<;>(first|(cases ht;done)|skip))|refine wr ?_|refine ix ?_|refine ati ?_|refine row ?_|refine app ?_|refine dr ?_|refine VAnd.mk ?_ ?_|exact VJe.mk rfl ⟨rfl,rfl⟩|refine .inl (slM ?_)|refine .inl (slO ?_)|refine slM ?_|refine slO ?_|refine slN ?_|refine slS ?_|refine swB (swM fun C hC=>?_)|refine sj ?_|refine .inl (sv ?_)|refine sv ?_|refine cl ?_|refine s3 ?_|refine az ?_|refine rm ?_|refine VBs.own ?_|refine cf r0 ?_|refine cg r0 ?_|refine cz r0 ?_|refine cf s1 ?_|refine cg s1 ?_|refine cz s1 ?_|fail)<;>(try conv=>whnf))
  refine VLp.mk ⟨[], [], [25], fun k vs h => ∃ i : Nat, vs = [i64 i] ∧ h = [] ∧ i ≤ l.length ∧ k = l.length - i ∧ (∀ j (hj : j < i) (hjl : j < l.length), rightB l[j] = true) ∧ (∀ a b (ha : a < l.length) (hb : b < l.length), a < b → b < i → ¬ (l[a].dc = l[b].dc ∧ l[a].af = l[b].af)), l.length, ?_⟩
  conv => whnf
  refine ⟨⟨0, rfl, rfl, by omega, by omega, fun j hj => by omega, fun a b _ _ _ h => by omega⟩, ?_⟩
  rintro k vs h ⟨i, rfl, rfl, hi, rfl, hg, hd⟩
  by_cases hin : i < l.length
  · have hSi := hS _ (List.getElem_mem hin)
    cases hR : rightB l[i]
    · have q1 := rright_p hSi hR
      (try conv=>whnf)<;>repeat'((first|exact sNo|refine sT ?_|refine sF ?_|((first|refine sD ?_ ?_|refine sE ?_ ?_|refine sN ?_ ?_|refine sG ?_ ?_)<;>intro ht<;>(first|(cases ht;done)|skip))|refine wr ?_|refine ix ?_|refine ati ?_|refine row ?_|refine app ?_|refine dr ?_|refine VAnd.mk ?_ ?_|exact VJe.mk rfl ⟨rfl,rfl⟩|refine .inl (slM ?_)|refine .inl (slO ?_)|refine slM ?_|refine slO ?_|refine slN ?_|refine slS ?_|refine swB (swM fun C hC=>?_)|refine sj ?_|refine .inl (sv ?_)|refine sv ?_|refine cl ?_|refine s3 ?_|refine az ?_|refine rm ?_|refine VBs.own ?_|refine cf q1 ?_|refine cg q1 ?_|refine cz q1 ?_|fail)<;>(try conv=>whnf))
      all_goals rfl
    · have q1 := rright_p hSi hR
      (try conv=>whnf)<;>repeat'((first|exact sNo|refine sT ?_|refine sF ?_|((first|refine sD ?_ ?_|refine sE ?_ ?_|refine sN ?_ ?_|refine sG ?_ ?_)<;>intro ht<;>(first|(cases ht;done)|skip))|refine wr ?_|refine ix ?_|refine ati ?_|refine row ?_|refine app ?_|refine dr ?_|refine VAnd.mk ?_ ?_|exact VJe.mk rfl ⟨rfl,rfl⟩|refine .inl (slM ?_)|refine .inl (slO ?_)|refine slM ?_|refine slO ?_|refine slN ?_|refine slS ?_|refine swB (swM fun C hC=>?_)|refine sj ?_|refine .inl (sv ?_)|refine sv ?_|refine cl ?_|refine s3 ?_|refine az ?_|refine rm ?_|refine VBs.own ?_|refine cf q1 ?_|refine cg q1 ?_|refine cz q1 ?_|fail)<;>(try conv=>whnf))
      refine VLp.mk ⟨[], [], [35], fun k vs h => ∃ j : Nat, vs = [i64 j] ∧ h = [] ∧ j ≤ i ∧ k = i - j ∧ ∀ a (ha : a < l.length), a < j → ¬ (l[a].dc = l[i].dc ∧ l[a].af = l[i].af), i, ?_⟩
      conv => whnf
      refine ⟨⟨0, rfl, rfl, by omega, by omega, fun a _ h => by omega⟩, ?_⟩
      rintro k vs h ⟨j, rfl, rfl, hj, rfl, hdj⟩
      by_cases hji : j < i
      · have hjl : j < l.length := by omega
        by_cases hp : l[j].dc = l[i].dc ∧ l[j].af = l[i].af
        · obtain ⟨hp1, hp2⟩ := hp
          (try conv=>whnf)<;>repeat'((first|exact sNo|refine sT ?_|refine sF ?_|((first|refine sD ?_ ?_|refine sE ?_ ?_|refine sN ?_ ?_|refine sG ?_ ?_)<;>intro ht<;>(first|(cases ht;done)|skip))|refine wr ?_|refine ix ?_|refine ati ?_|refine row ?_|refine app ?_|refine dr ?_|refine VAnd.mk ?_ ?_|exact VJe.mk rfl ⟨rfl,rfl⟩|refine .inl (slM ?_)|refine .inl (slO ?_)|refine slM ?_|refine slO ?_|refine slN ?_|refine slS ?_|refine swB (swM fun C hC=>?_)|refine sj ?_|refine .inl (sv ?_)|refine sv ?_|refine cl ?_|refine s3 ?_|refine az ?_|refine rm ?_|refine VBs.own ?_|fail)<;>(try conv=>whnf))
          all_goals rfl
        · (try conv=>whnf)<;>repeat'((first|exact sNo|refine sT ?_|refine sF ?_|((first|refine sD ?_ ?_|refine sE ?_ ?_|refine sN ?_ ?_|refine sG ?_ ?_)<;>intro ht<;>(first|(cases ht;done)|skip))|refine wr ?_|refine ix ?_|refine ati ?_|refine row ?_|refine app ?_|refine dr ?_|refine VAnd.mk ?_ ?_|exact VJe.mk rfl ⟨rfl,rfl⟩|refine .inl (slM ?_)|refine .inl (slO ?_)|refine slM ?_|refine slO ?_|refine slN ?_|refine slS ?_|refine swB (swM fun C hC=>?_)|refine sj ?_|refine .inl (sv ?_)|refine sv ?_|refine cl ?_|refine s3 ?_|refine az ?_|refine rm ?_|refine VBs.own ?_|fail)<;>(try conv=>whnf))
          all_goals exact VRd.mk rfl ⟨i - (j + 1), by omega, j + 1, rfl, rfl, by omega, rfl, fun a ha h => by rcases Nat.lt_succ_iff_lt_or_eq.1 h with h | rfl; exact hdj a ha h; exact hp⟩
      · obtain rfl : j = i := by omega
        (try conv=>whnf)<;>repeat'((first|exact sNo|refine sT ?_|refine sF ?_|((first|refine sD ?_ ?_|refine sE ?_ ?_|refine sN ?_ ?_|refine sG ?_ ?_)<;>intro ht<;>(first|(cases ht;done)|skip))|refine wr ?_|refine ix ?_|refine ati ?_|refine row ?_|refine app ?_|refine dr ?_|refine VAnd.mk ?_ ?_|exact VJe.mk rfl ⟨rfl,rfl⟩|refine .inl (slM ?_)|refine .inl (slO ?_)|refine slM ?_|refine slO ?_|refine slN ?_|refine slS ?_|refine swB (swM fun C hC=>?_)|refine sj ?_|refine .inl (sv ?_)|refine sv ?_|refine cl ?_|refine s3 ?_|refine az ?_|refine rm ?_|refine VBs.own ?_|fail)<;>(try conv=>whnf))
        all_goals exact VRd.mk rfl ⟨l.length - (j + 1), by omega, j + 1, rfl, rfl, by omega, rfl, fun a h hl => by rcases Nat.lt_succ_iff_lt_or_eq.1 h with h | rfl; exact hg a h hl; exact hR, fun a b ha hb hab h => by rcases Nat.lt_succ_iff_lt_or_eq.1 h with h | rfl; exact hd a b ha hb hab h; exact hdj a ha hab⟩
  · have hR : ∀ b ∈ l, rightB b = true := fun b hb => by
      obtain ⟨j, hj, rfl⟩ := List.getElem_of_mem hb
      exact hg j (by omega) hj
    have hA : Apart l := ⟨fun b hb => ⟨hR b hb, hS b hb⟩, nd_of hR fun a b ha hb hab => hd a b ha hb hab (by omega)⟩
    have hB := hA.rev
    have hrl : l.reverse.length = l.length := List.length_reverse
    have fa := addAll_spec l.length l rfl (by omega) hA
    have fb := addAll_spec l.length l.reverse hrl (by omega) hB
    have hEq : addAll l.reverse = addAll l := fb.1.eq fa.1 fun x => by rw [fb.2.1, fa.2.1, List.mem_reverse]
    have sa := fun (i : Nat) (h : i < l.length) => take_step (by omega) hA h
    have sb := fun (i : Nat) (h : i < l.length) => take_step (by omega) hB (i := i) (by omega)
    have ga := fun (i : Nat) => addAll_spec _ (l.take i) rfl (by rw [List.length_take]; omega) (hA.take i)
    have gb := fun (i : Nat) => addAll_spec _ (l.reverse.take i) rfl (by rw [List.length_take]; omega) (hB.take i)
    have hrev := fun (i : Nat) (h : i < l.length) (h2 : ((l.length : Int) - 1 - (i : Int)).toNat < l.length) => (show l.reverse[i]'(by omega) = l[((l.length : Int) - 1 - (i : Int)).toNat] by
      rw [List.getElem_reverse]
      congr 1
      omega)
    clear hg hd hR
    (try conv=>whnf)<;>repeat'((first|exact sNo|refine sT ?_|refine sF ?_|((first|refine sD ?_ ?_|refine sE ?_ ?_|refine sN ?_ ?_|refine sG ?_ ?_)<;>intro ht<;>(first|(cases ht;done)|skip))|refine wr ?_|refine ix ?_|refine ati ?_|refine row ?_|refine app ?_|refine dr ?_|refine VAnd.mk ?_ ?_|exact VJe.mk rfl ⟨rfl,rfl⟩|refine .inl (slM ?_)|refine .inl (slO ?_)|refine slM ?_|refine slO ?_|refine slN ?_|refine slS ?_|refine swB (swM fun C hC=>?_)|refine sj ?_|refine .inl (sv ?_)|refine sv ?_|refine cl ?_|refine s3 ?_|refine az ?_|refine rm ?_|refine VBs.own ?_|fail)<;>(try conv=>whnf))
    refine VLp.mk ⟨[.flat 0 0, .flat 1 0], [5, 6], [66], fun k vs h => ∃ i : Nat, vs = [i64 i] ∧ h = [gB 0 (addAll (l.take i)), gB 1 (addAll (l.reverse.take i))] ∧ i ≤ l.length ∧ k = l.length - i, l.length, ?_⟩
    conv => whnf
    refine ⟨⟨0, rfl, rfl, by omega, by omega⟩, ?_⟩
    rintro k vs h ⟨i, rfl, rfl, hi, rfl⟩
    by_cases hin : i < l.length
    · have hi2 : ((l.length : Int) - 1 - (i : Int)).toNat < l.length := by omega
      have e1 := sa i hin
      have e2 := sb i hin
      rw [hrev i hin hi2] at e2
      have l1 := (ga i).2.2
      have l2 := (gb i).2.2
      rw [List.length_take] at l1 l2
      have q1 := gadd_o (addAll (l.take i)) l[i] (ga i).1 (by omega) (hS _ (List.getElem_mem hin))
      have q2 := gadd_o (addAll (l.reverse.take i)) (l[((l.length : Int) - 1 - (i : Int)).toNat]'hi2) (gb i).1 (by omega) (hS _ (List.getElem_mem hi2))
      rw [e1] at q1
      rw [e2] at q2
      dsimp only at q1 q2
      (try conv=>whnf)<;>repeat'((first|exact sNo|refine sT ?_|refine sF ?_|((first|refine sD ?_ ?_|refine sE ?_ ?_|refine sN ?_ ?_|refine sG ?_ ?_)<;>intro ht<;>(first|(cases ht;done)|skip))|refine wr ?_|refine ix ?_|refine ati ?_|refine row ?_|refine app ?_|refine dr ?_|refine VAnd.mk ?_ ?_|exact VJe.mk rfl ⟨rfl,rfl⟩|refine .inl (slM ?_)|refine .inl (slO ?_)|refine slM ?_|refine slO ?_|refine slN ?_|refine slS ?_|refine swB (swM fun C hC=>?_)|refine sj ?_|refine .inl (sv ?_)|refine sv ?_|refine cl ?_|refine s3 ?_|refine az ?_|refine rm ?_|refine VBs.own ?_|(refine co q1 ?_;rintro r h' ⟨rfl,rfl⟩)|(refine co q2 ?_;rintro r h' ⟨rfl,rfl⟩)|fail)<;>(try conv=>whnf))
      all_goals exact VRd.mk rfl ⟨l.length - (i + 1), by omega, i + 1, rfl, rfl, by omega, rfl⟩
    · obtain rfl : i = l.length := by omega
      rw [List.take_length, ← hrl, List.take_length, hrl, hEq]
      have hlen := fa.2.2
      have hG := fa.1
      have q1 := gall_o (addAll l) hG (by omega)
      have hrise := fun i h0 hi => rises_GI hG (i := i) h0 hi
      have hok := hG.ok
      clear sa sb ga gb hrev hEq fb fa hA hB hG
      generalize addAll l = g at *
      (try conv=>whnf)<;>repeat'((first|exact sNo|refine sT ?_|refine sF ?_|((first|refine sD ?_ ?_|refine sE ?_ ?_|refine sN ?_ ?_|refine sG ?_ ?_)<;>intro ht<;>(first|(cases ht;done)|skip))|refine wr ?_|refine ix ?_|refine ati ?_|refine row ?_|refine app ?_|refine dr ?_|refine VAnd.mk ?_ ?_|exact VJe.mk rfl ⟨rfl,rfl⟩|refine .inl (slM ?_)|refine .inl (slO ?_)|refine slM ?_|refine slO ?_|refine slN ?_|refine slS ?_|refine swB (swM fun C hC=>?_)|refine sj ?_|refine .inl (sv ?_)|refine sv ?_|refine cl ?_|refine s3 ?_|refine az ?_|refine rm ?_|refine VBs.own ?_|(refine co q1 ?_;rintro r h' ⟨rfl,rfl⟩)|fail)<;>(try conv=>whnf))
      refine VLp.mk ⟨[], [12, 13], [108], fun k vs h => ∃ i : Nat, vs = [i64 i] ∧ h = [.row 0 50 10 (g.map bunE), .row 1 50 10 (g.map bunE)] ∧ i ≤ g.length ∧ k = g.length - i, g.length, ?_⟩
      conv => whnf
      refine ⟨⟨0, rfl, rfl, by omega, by omega⟩, ?_⟩
      rintro k vs h ⟨i, rfl, rfl, hi, rfl⟩
      by_cases hin : i < g.length
      · obtain ⟨hR, hSi⟩ := hok _ (List.getElem_mem hin)
        have q2 := bsame_t g[i] hSi hR
        by_cases h0 : 0 < i
        · have hr := hrise i h0 hin
          have ei : ((i : Int) - 1).toNat = i - 1 := by omega
          have hi2 : ((i : Int) - 1).toNat < g.length := by omega
          have hr2 : (g[((i : Int) - 1).toNat]'hi2).dc < g[i].dc ∨ ((g[((i : Int) - 1).toNat]'hi2).dc = g[i].dc ∧ (g[((i : Int) - 1).toNat]'hi2).af < g[i].af) := by
            simp only [ei]
            exact hr
          (try conv=>whnf)<;>repeat'((first|exact sNo|refine sT ?_|refine sF ?_|((first|refine sD ?_ ?_|refine sE ?_ ?_|refine sN ?_ ?_|refine sG ?_ ?_)<;>intro ht<;>(first|(cases ht;done)|skip))|refine wr ?_|refine ix ?_|refine ati ?_|refine row ?_|refine app ?_|refine dr ?_|refine VAnd.mk ?_ ?_|exact VJe.mk rfl ⟨rfl,rfl⟩|refine .inl (slM ?_)|refine .inl (slO ?_)|refine slM ?_|refine slO ?_|refine slN ?_|refine slS ?_|refine swB (swM fun C hC=>?_)|refine sj ?_|refine .inl (sv ?_)|refine sv ?_|refine cl ?_|refine s3 ?_|refine az ?_|refine rm ?_|refine VBs.own ?_|refine cf q2 ?_|refine cg q2 ?_|refine cz q2 ?_|fail)<;>(try conv=>whnf))
          all_goals exact VRd.mk rfl ⟨g.length - (i + 1), by omega, i + 1, rfl, rfl, by omega, rfl⟩
        · (try conv=>whnf)<;>repeat'((first|exact sNo|refine sT ?_|refine sF ?_|((first|refine sD ?_ ?_|refine sE ?_ ?_|refine sN ?_ ?_|refine sG ?_ ?_)<;>intro ht<;>(first|(cases ht;done)|skip))|refine wr ?_|refine ix ?_|refine ati ?_|refine row ?_|refine app ?_|refine dr ?_|refine VAnd.mk ?_ ?_|exact VJe.mk rfl ⟨rfl,rfl⟩|refine .inl (slM ?_)|refine .inl (slO ?_)|refine slM ?_|refine slO ?_|refine slN ?_|refine slS ?_|refine swB (swM fun C hC=>?_)|refine sj ?_|refine .inl (sv ?_)|refine sv ?_|refine cl ?_|refine s3 ?_|refine az ?_|refine rm ?_|refine VBs.own ?_|refine cf q2 ?_|refine cg q2 ?_|refine cz q2 ?_|fail)<;>(try conv=>whnf))
          all_goals exact VRd.mk rfl ⟨g.length - (i + 1), by omega, i + 1, rfl, rfl, by omega, rfl⟩
      · (try conv=>whnf)<;>repeat'((first|exact sNo|refine sT ?_|refine sF ?_|((first|refine sD ?_ ?_|refine sE ?_ ?_|refine sN ?_ ?_|refine sG ?_ ?_)<;>intro ht<;>(first|(cases ht;done)|skip))|refine wr ?_|refine ix ?_|refine ati ?_|refine row ?_|refine app ?_|refine dr ?_|refine VAnd.mk ?_ ?_|exact VJe.mk rfl ⟨rfl,rfl⟩|refine .inl (slM ?_)|refine .inl (slO ?_)|refine slM ?_|refine slO ?_|refine slN ?_|refine slS ?_|refine swB (swM fun C hC=>?_)|refine sj ?_|refine .inl (sv ?_)|refine sv ?_|refine cl ?_|refine s3 ?_|refine az ?_|refine rm ?_|refine VBs.own ?_|fail)<;>(try conv=>whnf))
        all_goals rfl
end Go.Proofs.YtlghgdgpbnlpmaaGreat
