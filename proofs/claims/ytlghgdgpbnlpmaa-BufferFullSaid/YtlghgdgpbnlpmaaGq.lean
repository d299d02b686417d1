/- What is proved: chapter 23's law function GateFull answers true. Conditions: none. -/
import Derived.Test.YtlghgdgpbnlpmaaGk
import Derived.Test.YtlghgdgpbnlpmaaGo
namespace Go.Proofs.Ytlghgdgpbnlpmaa
open Go.RowKit
set_option linter.unusedVariables false
set_option linter.unusedSimpArgs false
set_option maxRecDepth 100000
set_option maxHeartbeats 100000000
def fullB (f : Int) (k : Nat) : Bun := ⟨2, f + k, f + k + 1, fun _ => 0, .mk [] [], [(2, f + k + 1, f + k + 1)]⟩
def fullG (f : Int) (k : Nat) : List Bun := (List.range k).map (fullB f)
theorem fullB_Sm (f : Int) (k : Nat) : SmB (fullB f k) := ⟨show cntT (.mk [] []) ≤ 100 by decide, show 1 ≤ 100 by decide, show deepT (.mk [] []) ≤ 9 by decide⟩
theorem fullB_right {f : Int} {k : Nat} (h0 : 0 ≤ f) (h1 : f ≤ 4294967295) (hk : k ≤ 1000) : rightB (fullB f k) = true := by
  refine rightB_of (b := fullB f k) (namesB_iff.2 ⟨?_, mayV_zero⟩) (by show rightT 5 (.mk [] []) = true; decide) rfl (one_right (by decide) (by decide) (by omega) (by omega) (by omega)) (fun x hx => ?_) (fun y h1 h2 => ?_) (fun d y h => ?_)
  · simp only [fullB]
    omega
  · have e : allT (fullB f k).t = [] := rfl
    rw [e] at hx
    cases hx
  · simp only [fullB] at h1 h2
    exact one_has.2 ⟨by simp [fullB], rfl, by omega, by omega⟩
  · obtain ⟨_, rfl, k1, k2⟩ := one_has.1 h
    simp only [fullB, if_true]
    exact k2
theorem fullB_key (f : Int) (k : Nat) : keyB (fullB f k) = 2199023255554 + f + k := by unfold keyB fullB; dsimp only; omega
theorem fullG_len (f : Int) (k : Nat) : (fullG f k).length = k := by unfold fullG; simp
theorem fullG_succ (f : Int) (k : Nat) : fullG f (k + 1) = fullG f k ++ [fullB f k] := by unfold fullG; rw [List.range_succ, List.map_append]; rfl
theorem fullG_mem {f : Int} {k : Nat} {x : Bun} : x ∈ fullG f k ↔ ∃ i, i < k ∧ fullB f i = x := by unfold fullG; simp
theorem fullG_GI {f : Int} (h0 : 0 ≤ f) (h1 : f ≤ 4294967295) {k : Nat} (hk : k ≤ 1000) : GI (fullG f k) := by
  refine ⟨fun b hb => ?_, ?_⟩
  · obtain ⟨i, hi, rfl⟩ := fullG_mem.1 hb
    exact ⟨fullB_right h0 h1 (by omega), fullB_Sm f i⟩
  · unfold srtM gm fullG
    rw [List.map_map, List.pairwise_map]
    refine List.pairwise_lt_range.imp fun {a b} hab => ?_
    simp only [Function.comp, fullB_key, ltI, decide_eq_true_eq]
    omega
theorem full_no {f : Int} {g : List Bun} {k : Nat} (h : ∀ x ∈ g, keyB x ≠ keyB (fullB f k)) : fndG (fullB f k) g = false := by
  cases hf : fndG (fullB f k) g
  · rfl
  · obtain ⟨h1, h2⟩ := fndG_iff.1 hf
    exact absurd h2 (h _ (List.getElem_mem h1))
theorem full_add {f : Int} (h0 : 0 ≤ f) (h1 : f ≤ 4294967295) {k : Nat} (hk : k < 64) : addG (fullG f k) (fullB f k) = (fullG f (k + 1), true, 0) := by
  have hR := fullB_right h0 h1 (show k ≤ 1000 by omega)
  have hf : fndG (fullB f k) (fullG f k) = false := full_no fun x hx => by
    obtain ⟨i, hi, rfl⟩ := fullG_mem.1 hx
    rw [fullB_key, fullB_key]; omega
  rw [addG_in hR hf (by rw [fullG_len]; omega)]
  have hg := fullG_GI h0 h1 (k := k) (by omega)
  rw [(hg.ins hR (fullB_Sm f k) hf).eq (fullG_GI h0 h1 (k := k + 1) (by omega)) fun x => by
    rw [mem_ins, fullG_succ, List.mem_append, List.mem_singleton]; exact Or.comm]
theorem full_full {f : Int} (h0 : 0 ≤ f) (h1 : f ≤ 4294967295) {k : Nat} (hk : 64 ≤ k) (hk2 : k ≤ 1000) : addG (fullG f 64) (fullB f k) = (fullG f 64, false, 4) := by
  have hf : fndG (fullB f k) (fullG f 64) = false := full_no fun x hx => by
    obtain ⟨i, hi, rfl⟩ := fullG_mem.1 hx
    rw [fullB_key, fullB_key]; omega
  exact addG_full (fullB_right h0 h1 hk2) hf (by rw [fullG_len]; omega)
theorem fullG_zero {f : Int} {k : Nat} (hk : 0 < k) : (fullG f k)[0]'(by rw [fullG_len]; exact hk) = fullB f 0 := by unfold fullG; simp
theorem full_there {f : Int} (h0 : 0 ≤ f) (h1 : f ≤ 4294967295) : addG (fullG f 64) (fullB f 0) = (fullG f 64, false, 0) := by
  have hR := fullB_right h0 h1 (show 0 ≤ 1000 by omega)
  cases hf : fndG (fullB f 0) (fullG f 64)
  · have := fndG_no (fullG_GI h0 h1 (k := 64) (by omega)) hf (i := 0) (by rw [fullG_len]; omega)
    rw [fullG_zero (by omega)] at this
    exact absurd rfl this
  · exact addG_there hR hf
def fromV (f : Int) : Int → Int := fun d => if d = 2 then f else 0
theorem full_next {f : Int} (h0 : 0 ≤ f) (h1 : f ≤ 4294967295) : nextG (fullG f 64) (fromV f) = ((fullG f 64).drop 1, fullB f 0, true) := by
  have hr : restG (fullG f 64) (fromV f) = fullG f 64 := List.filter_eq_self.2 fun x hx => by
    obtain ⟨i, hi, rfl⟩ := fullG_mem.1 hx
    have : knownB (fullB f i) (fromV f) = false := by
      unfold knownB
      have : decide ((fullB f i).la ≤ fromV f (fullB f i).dc) = false := decide_eq_false (by simp only [fullB, fromV, if_true]; omega)
      rw [this, Bool.and_false]
    rw [this]; rfl
  have hz := fullG_zero (f := f) (show 0 < 64 by omega)
  have hl := fullG_len f 64
  have hd : readyB (fullB f 0) (fromV f) = true := by
    unfold readyB
    rw [fullB_right h0 h1 (by omega), decide_eq_true (show fromV f (fullB f 0).dc = (fullB f 0).af by simp [fullB, fromV])]
    have : atMost (fullB f 0).dp (fromV f) = true := atMost_iff.2 fun d _ _ => by
      show (0 : Int) ≤ fromV f d
      unfold fromV
      split <;> omega
    rw [this]
    rfl
  rw [nextG_some (i := 0) (by rw [hr, hl]; omega) (by simp only [hr, hz]; exact hd) (fun j hj _ => by omega)]
  simp only [hr, hz, List.take_zero, List.nil_append]
theorem full_again {f : Int} (h0 : 0 ≤ f) (h1 : f ≤ 4294967295) : addG ((fullG f 64).drop 1) (fullB f 0) = (insG (fullB f 0) ((fullG f 64).drop 1), true, 0) := by
  have e : fullG f 64 = fullB f 0 :: (fullG f 64).drop 1 := by
    have h := List.drop_eq_getElem_cons (l := fullG f 64) (i := 0) (by rw [fullG_len]; omega)
    rw [fullG_zero (by omega)] at h
    exact h
  have hs := (fullG_GI h0 h1 (k := 64) (by omega)).srt
  rw [e] at hs
  have hlt := (gm_lt (A := []) hs).2
  have hf : fndG (fullB f 0) ((fullG f 64).drop 1) = false := full_no fun x hx => by have := hlt x hx; omega
  exact addG_in (fullB_right h0 h1 (by omega)) hf (by rw [List.length_drop, fullG_len]; omega)
theorem fullB_0 (f : Int) : fullB f 0 = ⟨2, f, f + 1, fun _ => 0, .mk [] [], [(2, f + 1, f + 1)]⟩ := by simp [fullB]
attribute [local irreducible] AFnP AFn AFnR in
theorem lawFull_a (f n : Int) (h0 : 0 ≤ f) (h1 : f ≤ 4294967295) (hn : 0 ≤ n ∧ n ≤ 255) : AFnP Try.prog 3 [.int .u32 f, .int .u8 n] (.bool true) := by
  refine afp ty_ok Try.call3 Try.func3 ?_
  have r0 := awake_a
  have t1 : 0 ≤ n.tmod 40 := Int.tmod_nonneg 40 hn.1
  have t2 : n.tmod 40 < 40 := Int.tmod_lt_of_pos n (by decide)
  (try conv=>whnf)<;>repeat'((first|exact sNo|refine sT ?_|refine sF ?_|((first|refine sD ?_ ?_|refine sE ?_ ?_|refine sN ?_ ?_|refine sG ?_ ?_)<;>intro ht<;>(first|(cases ht;done)|skip))|refine wr ?_|refine ix ?_|refine ati ?_|refine row ?_|refine app ?_|refine dr ?_|refine VAnd.mk ?_ ?_|exact VJe.mk rfl ⟨rfl,rfl⟩|refine .inl (slM ?_)|refine .inl (slO ?_)|refine slM ?_|refine slO ?_|refine slN ?_|refine slS ?_|refine swB (swM fun C hC=>?_)|refine sj ?_|refine .inl (sv ?_)|refine sv ?_|refine cl ?_|refine s3 ?_|refine az ?_|refine rm ?_|refine VBs.own ?_|refine cf r0 ?_|refine cg r0 ?_|refine cz r0 ?_|fail)<;>(try conv=>whnf))
  generalize n.tmod 40 = m at *
  refine VLp.mk ⟨[.flat 0 0, .flat 1 7, .flat 1 8, .flat 1 9], [5, 6], [23], fun k vs h => ∃ (i : Nat) (a b : Int) (q : Nat) (R : List (List AV)), vs = [i64 i] ∧ h = [gB 0 (fullG f (min i 64)), .blk 1 [i64 2, i64 a, i64 b, i64 0, i64 0, i64 0, i64 0, .lst 0 [], .lst 0 [], .lst q R] 40] ∧ (i : Int) ≤ 64 + m ∧ k = (64 + m).toNat - i, (64 + m).toNat, ?_⟩
  conv => whnf
  refine ⟨⟨0, f, 0, 0, [], rfl, rfl, by omega, by omega⟩, ?_⟩
  rintro k vs h ⟨i, a, b, q, R, rfl, rfl, hi, rfl⟩
  have hlen := fullG_len f (min i 64)
  have hG := fullG_GI h0 h1 (k := min i 64) (by omega)
  by_cases hin : (i : Int) < 64 + m
  · have q1 := gadd_o (fullG f (min i 64)) (fullB f i) hG (by omega) (fullB_Sm f i)
    by_cases h64 : i < 64
    · rw [show min i 64 = i by omega, full_add h0 h1 h64] at q1
      dsimp only at q1
      rw [show min i 64 = i by omega]
      have e : fullG f (min (i + 1) 64) = fullG f (i + 1) := by rw [show min (i + 1) 64 = i + 1 by omega]
      generalize fullG f i = g at *
      generalize fullG f (i + 1) = g' at *
      (try conv=>whnf)<;>repeat'((first|refine VBs.frz ?_|exact sNo|refine sT ?_|refine sF ?_|((first|refine sD ?_ ?_|refine sE ?_ ?_|refine sN ?_ ?_|refine sG ?_ ?_)<;>intro ht<;>(first|(cases ht;done)|skip))|refine wr ?_|refine ix ?_|refine ati ?_|refine row ?_|refine app ?_|refine dr ?_|refine VAnd.mk ?_ ?_|exact VJe.mk rfl ⟨rfl,rfl⟩|refine .inl (slM ?_)|refine .inl (slO ?_)|refine slM ?_|refine slO ?_|refine slN ?_|refine slS ?_|refine swB (swM fun C hC=>?_)|refine sj ?_|refine .inl (sv ?_)|refine sv ?_|refine cl ?_|refine s3 ?_|refine az ?_|refine rm ?_|refine VBs.own ?_|(refine co q1 ?_;rintro r h' ⟨rfl,rfl⟩)|fail)<;>(try conv=>whnf))
      all_goals exact VRd.mk rfl ⟨(64 + m).toNat - (i + 1), by omega, i + 1, _, _, _, _, rfl, by rw [e], by omega, rfl⟩
    · rw [show min i 64 = 64 by omega, full_full h0 h1 (by omega) (by omega)] at q1
      dsimp only at q1
      rw [show min i 64 = 64 by omega]
      have e : fullG f (min (i + 1) 64) = fullG f 64 := by rw [show min (i + 1) 64 = 64 by omega]
      generalize fullG f 64 = g at *
      (try conv=>whnf)<;>repeat'((first|refine VBs.frz ?_|exact sNo|refine sT ?_|refine sF ?_|((first|refine sD ?_ ?_|refine sE ?_ ?_|refine sN ?_ ?_|refine sG ?_ ?_)<;>intro ht<;>(first|(cases ht;done)|skip))|refine wr ?_|refine ix ?_|refine ati ?_|refine row ?_|refine app ?_|refine dr ?_|refine VAnd.mk ?_ ?_|exact VJe.mk rfl ⟨rfl,rfl⟩|refine .inl (slM ?_)|refine .inl (slO ?_)|refine slM ?_|refine slO ?_|refine slN ?_|refine slS ?_|refine swB (swM fun C hC=>?_)|refine sj ?_|refine .inl (sv ?_)|refine sv ?_|refine cl ?_|refine s3 ?_|refine az ?_|refine rm ?_|refine VBs.own ?_|(refine co q1 ?_;rintro r h' ⟨rfl,rfl⟩)|fail)<;>(try conv=>whnf))
      all_goals exact VRd.mk rfl ⟨(64 + m).toNat - (i + 1), by omega, i + 1, _, _, _, _, rfl, by rw [e], by omega, rfl⟩
  · have hmin : min i 64 = 64 := by omega
    rw [hmin] at hlen hG ⊢
    have q1 := gadd_o (fullG f 64) (fullB f 0) hG (by omega) (fullB_Sm f 0)
    rw [full_there h0 h1] at q1
    dsimp only at q1
    have q2 := glen_a (fullG f 64)
    rw [hlen] at q2
    replace q2 : AFnP Try.prog 7 [.fp [gE (fullG f 64)] 0] (i64 64) := q2
    have q3 := gnext_o (fullG f 64) (fromV f) hG (by omega)
    have hG2 := hG.next (fromV f)
    rw [full_next h0 h1] at q3 hG2
    unfold outE at q3
    dsimp only at q3 hG2
    have hl2 : ((fullG f 64).drop 1).length = 63 := by rw [List.length_drop, hlen]
    have q4 := rsame_B (fullB f 0) (fullB_Sm f 0)
    have q5 := gadd_o ((fullG f 64).drop 1) (fullB f 0) hG2 (by omega) (fullB_Sm f 0)
    rw [full_again h0 h1] at q5
    dsimp only at q5
    have hl3 := insG_len (fullB f 0) ((fullG f 64).drop 1)
    rw [hl2] at hl3
    have q6 := glen_a (insG (fullB f 0) ((fullG f 64).drop 1))
    rw [hl3] at q6
    replace q6 : AFnP Try.prog 7 [.fp [gE (insG (fullB f 0) ((fullG f 64).drop 1))] 0] (i64 64) := q6
    have hv : vecE (fromV f) = .agg [i64 0, i64 0, i64 f, i64 0] := by simp [vecE, fromV]
    rw [hv] at q3
    generalize insG (fullB f 0) ((fullG f 64).drop 1) = g3 at *
    rw [fullB_0] at q1 q3 q4 q5
    generalize (fullG f 64).drop 1 = g2 at *
    generalize fullG f 64 = g1 at *
    clear hG hG2
    (try conv=>whnf)<;>repeat'((first|refine VBs.frz ?_|exact sNo|refine sT ?_|refine sF ?_|((first|refine sD ?_ ?_|refine sE ?_ ?_|refine sN ?_ ?_|refine sG ?_ ?_)<;>intro ht<;>(first|(cases ht;done)|skip))|refine wr ?_|refine ix ?_|refine ati ?_|refine row ?_|refine app ?_|refine dr ?_|refine VAnd.mk ?_ ?_|exact VJe.mk rfl ⟨rfl,rfl⟩|refine .inl (slM ?_)|refine .inl (slO ?_)|refine slM ?_|refine slO ?_|refine slN ?_|refine slS ?_|refine swB (swM fun C hC=>?_)|refine sj ?_|refine .inl (sv ?_)|refine sv ?_|refine cl ?_|refine s3 ?_|refine az ?_|refine rm ?_|refine VBs.own ?_|(refine co q1 ?_;rintro r h' ⟨rfl,rfl⟩)|refine cg q2 ?_|fail)<;>(try conv=>whnf))
    (try conv=>whnf)<;>repeat'((first|exact sNo|refine sT ?_|refine sF ?_|((first|refine sD ?_ ?_|refine sE ?_ ?_|refine sN ?_ ?_|refine sG ?_ ?_)<;>intro ht<;>(first|(cases ht;done)|skip))|refine wr ?_|refine ix ?_|refine ati ?_|refine row ?_|refine app ?_|refine dr ?_|refine VAnd.mk ?_ ?_|exact VJe.mk rfl ⟨rfl,rfl⟩|refine .inl (slM ?_)|refine .inl (slO ?_)|refine slM ?_|refine slO ?_|refine slN ?_|refine slS ?_|refine swB (swM fun C hC=>?_)|refine sj ?_|refine .inl (sv ?_)|refine sv ?_|refine cl ?_|refine s3 ?_|refine az ?_|refine rm ?_|refine VBs.own ?_|(refine co q3 ?_;rintro r h' ⟨rfl,rfl⟩)|refine cg q4 ?_|fail)<;>(try conv=>whnf))
    (try conv=>whnf)<;>repeat'((first|exact sNo|refine sT ?_|refine sF ?_|((first|refine sD ?_ ?_|refine sE ?_ ?_|refine sN ?_ ?_|refine sG ?_ ?_)<;>intro ht<;>(first|(cases ht;done)|skip))|refine wr ?_|refine ix ?_|refine ati ?_|refine row ?_|refine app ?_|refine dr ?_|refine VAnd.mk ?_ ?_|exact VJe.mk rfl ⟨rfl,rfl⟩|refine .inl (slM ?_)|refine .inl (slO ?_)|refine slM ?_|refine slO ?_|refine slN ?_|refine slS ?_|refine swB (swM fun C hC=>?_)|refine sj ?_|refine .inl (sv ?_)|refine sv ?_|refine cl ?_|refine s3 ?_|refine az ?_|refine rm ?_|refine VBs.own ?_|(refine co q5 ?_;rintro r h' ⟨rfl,rfl⟩)|refine cg q6 ?_|fail)<;>(try conv=>whnf))
    all_goals rfl
end Go.Proofs.Ytlghgdgpbnlpmaa
