/- What is proved: chapter 24's law function BufferMeets answers true. Conditions: none. -/
import Derived.Test.YtlghgdgpbnlpmaaGreatHj
import Derived.Test.YtlghgdgpbnlpmaaGreatGoa
import Derived.Test.YtlghgdgpbnlpmaaGreatGi
namespace Go.Proofs.YtlghgdgpbnlpmaaGreat
open Go.RowKit
set_option linter.unusedVariables false
set_option linter.unusedSimpArgs false
set_option maxRecDepth 100000
set_option maxHeartbeats 100000000
/-- a list turned round -/
def rotL (l : List Bun) (r : Nat) : List Bun := l.drop r ++ l.take r
theorem rot_len {l : List Bun} {r : Nat} (h : r ≤ l.length) : (rotL l r).length = l.length := by unfold rotL; simp; omega
theorem rot_get {l : List Bun} {r : Nat} (h : r < l.length) {i : Nat} (hi : i < l.length) : (rotL l r)[i]? = l[(i + r) % l.length]? := by
  unfold rotL
  by_cases hc : i + r < l.length
  · rw [List.getElem?_append_left (by simp; omega), List.getElem?_drop, Nat.mod_eq_of_lt hc, Nat.add_comm]
  · rw [List.getElem?_append_right (by simp; omega), List.length_drop, List.getElem?_take_of_lt (by omega)]
    have : (i + r) % l.length = i - (l.length - r) := by
      rw [Nat.mod_eq_sub_mod (by omega), Nat.mod_eq_of_lt (by omega)]
      omega
    rw [this]
theorem rot_perm (l : List Bun) (r : Nat) : (rotL l r).Perm l := by
  unfold rotL
  have := List.perm_append_comm (l₁ := l.drop r) (l₂ := l.take r)
  rwa [List.take_append_drop] at this
theorem rot_mod {l : List Bun} {t : Nat} (h : 0 < l.length) {i : Nat} (hi : i < l.length) : (rotL l (t % l.length))[i]? = l[(i + t) % l.length]? := by
  rw [rot_get (Nat.mod_lt _ h) hi]
  congr 1
  rw [Nat.add_mod i (t % l.length), Nat.mod_mod, ← Nat.add_mod]
theorem rot_apart {l : List Bun} {u : Int → Int} (hr : Run u l) (hS : ∀ x ∈ l, SmB x) (r : Nat) : Apart (rotL l r) := by
  have hp := rot_perm l r
  exact ⟨fun x hx => ⟨Run_right hr (hp.subset hx), hS x (hp.subset hx)⟩, (hp.map keyB).nodup_iff.2 (Run_nd hr)⟩
theorem rot_drain {l : List Bun} {u : Int → Int} (hr : Run u l) (hS : ∀ x ∈ l, SmB x) (h64 : l.length ≤ 64) {r : Nat} (h : r ≤ l.length) : Drain (addAll (rotL l r)) u l := by
  obtain ⟨g1, g2, g3⟩ := addAll_spec _ (rotL l r) rfl (by rw [rot_len h]; exact h64) (rot_apart hr hS r)
  exact ⟨g1, hr, fun x => by rw [g2]; exact (rot_perm l r).mem_iff, by rw [g3, rot_len h]⟩
attribute [local irreducible] AFnP AFn AFnR in
theorem lawMeets_a (l : List Bun) (hb : ∀ b ∈ l, bndT b.t) (u0 v : Int → Int) (tn : Int) (htn : 0 ≤ tn ∧ tn ≤ 255) : AFnP Tryz.prog 11 [lstE bunE l, vecE u0, vecE v, .int .u8 tn] (.bool true) := by
  refine afp ty_ok Tryz.call11 Tryz.func11 ?_
  rw [nrm_E u0]
  have hz := nrm_mx (v := u0)
  generalize nrmV u0 = u at *
  have r0 := awake24_a
  cases hs : (decide (l.length ≤ 40) && l.all fun b => smallB b 30)
  · have s1 := rsmalls24_p (n := 40) (by decide) hb hs
    (try conv=>whnf)<;>repeat'((first|exact sNo|refine sT ?_|refine sF ?_|((first|refine sD ?_ ?_|refine sE ?_ ?_|refine sN ?_ ?_|refine sG ?_ ?_)<;>intro ht<;>(first|(cases ht;done)|skip))|refine wr ?_|refine ix ?_|refine ati ?_|refine row ?_|refine app ?_|refine dr ?_|refine VAnd.mk ?_ ?_|exact VJe.mk rfl ⟨rfl,rfl⟩|refine .inl (slM ?_)|refine .inl (slO ?_)|refine slM ?_|refine slO ?_|refine slN ?_|refine slS ?_|refine swB (swM fun C hC=>?_)|refine sj ?_|refine .inl (sv ?_)|refine sv ?_|refine cl ?_|refine s3 ?_|refine az ?_|refine rm ?_|refine VBs.own ?_|refine cf r0 ?_|refine cg r0 ?_|refine cz r0 ?_|refine cf s1 ?_|refine cg s1 ?_|refine cz s1 ?_|fail)<;>(try conv=>whnf))
    all_goals rfl
  have s1 := rsmalls24_p (n := 40) (by decide) hb hs
  cases hm : mayV u
  · have m1 := rmay_p hm
    (try conv=>whnf)<;>repeat'((first|exact sNo|refine sT ?_|refine sF ?_|((first|refine sD ?_ ?_|refine sE ?_ ?_|refine sN ?_ ?_|refine sG ?_ ?_)<;>intro ht<;>(first|(cases ht;done)|skip))|refine wr ?_|refine ix ?_|refine ati ?_|refine row ?_|refine app ?_|refine dr ?_|refine VAnd.mk ?_ ?_|exact VJe.mk rfl ⟨rfl,rfl⟩|refine .inl (slM ?_)|refine .inl (slO ?_)|refine slM ?_|refine slO ?_|refine slN ?_|refine slS ?_|refine swB (swM fun C hC=>?_)|refine sj ?_|refine .inl (sv ?_)|refine sv ?_|refine cl ?_|refine s3 ?_|refine az ?_|refine rm ?_|refine VBs.own ?_|refine cf r0 ?_|refine cg r0 ?_|refine cz r0 ?_|refine cf s1 ?_|refine cg s1 ?_|refine cz s1 ?_|refine cf m1 ?_|refine cg m1 ?_|refine cz m1 ?_|fail)<;>(try conv=>whnf))
    all_goals rfl
  have m1 := rmay_p hm
  cases hv : mayV v
  · have m2 := rmay_p hv
    (try conv=>whnf)<;>repeat'((first|exact sNo|refine sT ?_|refine sF ?_|((first|refine sD ?_ ?_|refine sE ?_ ?_|refine sN ?_ ?_|refine sG ?_ ?_)<;>intro ht<;>(first|(cases ht;done)|skip))|refine wr ?_|refine ix ?_|refine ati ?_|refine row ?_|refine app ?_|refine dr ?_|refine VAnd.mk ?_ ?_|exact VJe.mk rfl ⟨rfl,rfl⟩|refine .inl (slM ?_)|refine .inl (slO ?_)|refine slM ?_|refine slO ?_|refine slN ?_|refine slS ?_|refine swB (swM fun C hC=>?_)|refine sj ?_|refine .inl (sv ?_)|refine sv ?_|refine cl ?_|refine s3 ?_|refine az ?_|refine rm ?_|refine VBs.own ?_|refine cf r0 ?_|refine cg r0 ?_|refine cz r0 ?_|refine cf s1 ?_|refine cg s1 ?_|refine cz s1 ?_|refine cf m1 ?_|refine cg m1 ?_|refine cz m1 ?_|refine cf m2 ?_|refine cg m2 ?_|refine cz m2 ?_|fail)<;>(try conv=>whnf))
    all_goals rfl
  have m2 := rmay_p hv
  rw [Bool.and_eq_true, decide_eq_true_eq] at hs
  obtain ⟨h40, hs⟩ := hs
  have hS : ∀ b ∈ l, SmB b := fun b h => small_SmB (n := 30) (by decide) (List.all_eq_true.1 hs b h)
  have q1 := filled24_o l u hS (by omega) hm
  obtain ⟨b, ⟨S1, S2⟩, hbe, hI⟩ := sent_of (l := l) hm (hz hm) hv (by omega) hS
  rw [← hbe] at q1
  have q2 := bfor_o b 1 v 64 hI.fill.bi hI.cn hI.ok
  have htk := hI.take
  dsimp only at htk
  rw [hI.for_] at q2
  dsimp only at q2
  rw [htk] at q2
  have hrun := hI.sent.run
  have hS1 := hI.sent.hs
  have hlsm := hI.lsm
  have hlen2 := hI.sent.len
  have hlen3 := hI.fill.len
  rw [List.length_map] at hlen2
  dsimp only at hrun hS1 hlsm hlen2
  have h64 : S2.length ≤ 60 := by omega
  clear hI hbe htk hz hm hs hv hlen2 hlen3
  obtain ⟨t, rfl⟩ : ∃ t : Nat, tn = (t : Int) := ⟨tn.toNat, (Int.toNat_of_nonneg htn.1).symm⟩
  have hr0 : t % S2.length ≤ S2.length ∨ S2.length = 0 := by
    rcases Nat.eq_zero_or_pos S2.length with h | h
    · exact .inr h
    · exact .inl (Nat.le_of_lt (Nat.mod_lt _ h))
  obtain ⟨r, hr, hrot⟩ : ∃ r, r ≤ S2.length ∧ ∀ i, i < S2.length → (rotL S2 r)[i]? = S2[(i + t) % S2.length]? := by
    rcases hr0 with h | h
    · exact ⟨_, h, fun i hi => rot_mod (by omega) hi⟩
    · exact ⟨0, Nat.zero_le _, fun i hi => by omega⟩
  have hrl := rot_len hr
  have hA := rot_apart hrun hlsm r
  have hD := rot_drain hrun hlsm (by omega) hr
  obtain ⟨G, hG⟩ : ∃ G : Nat → List Bun, ∀ i, G i = addAll ((rotL S2 r).take i) := ⟨_, fun _ => rfl⟩
  have hG0 : G 0 = [] := by rw [hG]; rfl
  have hGe : addAll (rotL S2 r) = G S2.length := by rw [hG, ← hrl, List.take_length]
  have hGI : ∀ i, i ≤ S2.length → GI (G i) ∧ (G i).length = i := fun i hi => by
    have := addAll_spec _ ((rotL S2 r).take i) rfl (by rw [List.length_take]; omega) (hA.take i)
    rw [hG]
    exact ⟨this.1, by rw [this.2.2, List.length_take]; omega⟩
  have hGs : ∀ i (hi : i < S2.length), addG (G i) (S2[(i + t) % S2.length]'(Nat.mod_lt _ (by omega))) = (G (i + 1), true, 0) := fun i hi => by
    have h1 := take_step (l := rotL S2 r) (by omega) hA (i := i) (by omega)
    have h2 := hrot i hi
    rw [List.getElem?_eq_getElem (by omega), List.getElem?_eq_getElem (Nat.mod_lt _ (by omega))] at h2
    rw [Option.some.inj h2] at h1
    rw [hG, hG]
    exact h1
  rw [hGe] at hD
  clear hGe hA hrot hr0
  generalize hgs : (G S2.length) = gN at hD
  have hat0 : ∃ at', atMost v S1 = at' := ⟨_, rfl⟩
  obtain ⟨at', hat⟩ := hat0
  rw [hat] at q2
  cases at'
  all_goals
    (try conv=>whnf)<;>repeat'((first|exact sNo|refine sT ?_|refine sF ?_|((first|refine sD ?_ ?_|refine sE ?_ ?_|refine sN ?_ ?_|refine sG ?_ ?_)<;>intro ht<;>(first|(cases ht;done)|skip))|refine wr ?_|refine ix ?_|refine ati ?_|refine row ?_|refine app ?_|refine dr ?_|refine VAnd.mk ?_ ?_|exact VJe.mk rfl ⟨rfl,rfl⟩|refine .inl (slM ?_)|refine .inl (slO ?_)|refine slM ?_|refine slO ?_|refine slN ?_|refine slS ?_|refine swB (swM fun C hC=>?_)|refine sj ?_|refine .inl (sv ?_)|refine sv ?_|refine cl ?_|refine s3 ?_|refine az ?_|refine rm ?_|refine VBs.own ?_|refine cf r0 ?_|refine cg r0 ?_|refine cz r0 ?_|refine cf s1 ?_|refine cg s1 ?_|refine cz s1 ?_|refine cf m1 ?_|refine cg m1 ?_|refine cz m1 ?_|refine cf m2 ?_|refine cg m2 ?_|refine cz m2 ?_|(refine co q1 ?_;rintro r h' ⟨rfl,rfl⟩)|(refine co q2 ?_;rintro r h' ⟨rfl,rfl⟩)|fail)<;>(try conv=>whnf))
    refine VLp.mk ⟨[.flat 4 0], [5, 6, 9, 11, 14], [58], fun k vs h => ∃ i : Nat, vs = [i64 i] ∧ h = [.blk 0 [i64 (u 0), i64 (u 1), i64 (u 2), i64 (u 3)] 33, .blk 1 [i64 (v 0), i64 (v 1), i64 (v 2), i64 (v 3)] 33, bufP 2 b, .row 3 50 10 (S2.map bunE), gB 4 (G i)] ∧ i ≤ S2.length ∧ k = S2.length - i, S2.length, ?_⟩
    conv => whnf
    refine ⟨⟨0, rfl, by rw [hG0] <;> rfl, by omega, by omega⟩, ?_⟩
    rintro k vs h ⟨i, rfl, rfl, hi, rfl⟩
    by_cases hin : i < S2.length
    · have hjn : (i + t) % S2.length < S2.length := Nat.mod_lt _ (by omega)
      have hmod : ((i : Int) + (t : Int)).tmod (S2.length : Int) = (((i + t) % S2.length : Nat) : Int) := by
        rw [← Int.natCast_add, ← Int.ofNat_tmod]
      have q3 := gadd_o (G i) S2[(i + t) % S2.length] (hGI i hi).1 (by rw [(hGI i hi).2]; omega) (hlsm _ (List.getElem_mem hjn))
      rw [hGs i hin] at q3
      dsimp only at q3
      generalize (i + t) % S2.length = j at *
      (try conv=>whnf)<;>repeat'((first|exact sNo|refine sT ?_|refine sF ?_|((first|refine sD ?_ ?_|refine sE ?_ ?_|refine sN ?_ ?_|refine sG ?_ ?_)<;>intro ht<;>(first|(cases ht;done)|skip))|refine wr ?_|refine ix ?_|refine ati ?_|refine row ?_|refine app ?_|refine dr ?_|refine VAnd.mk ?_ ?_|exact VJe.mk rfl ⟨rfl,rfl⟩|refine .inl (slM ?_)|refine .inl (slO ?_)|refine slM ?_|refine slO ?_|refine slN ?_|refine slS ?_|refine swB (swM fun C hC=>?_)|refine sj ?_|refine .inl (sv ?_)|refine sv ?_|refine cl ?_|refine s3 ?_|refine az ?_|refine rm ?_|refine VBs.own ?_|(refine co q3 ?_;rintro r h' ⟨rfl,rfl⟩)|fail)<;>(try conv=>whnf))
      all_goals exact VRd.mk rfl ⟨S2.length - (i + 1), by omega, i + 1, rfl, rfl, by omega, rfl⟩
    · obtain rfl : i = S2.length := by omega
      rw [hgs]
      (try conv=>whnf)<;>repeat'((first|exact sNo|refine sT ?_|refine sF ?_|((first|refine sD ?_ ?_|refine sE ?_ ?_|refine sN ?_ ?_|refine sG ?_ ?_)<;>intro ht<;>(first|(cases ht;done)|skip))|refine wr ?_|refine ix ?_|refine ati ?_|refine row ?_|refine app ?_|refine dr ?_|refine VAnd.mk ?_ ?_|exact VJe.mk rfl ⟨rfl,rfl⟩|refine .inl (slM ?_)|refine .inl (slO ?_)|refine slM ?_|refine slO ?_|refine slN ?_|refine slS ?_|refine swB (swM fun C hC=>?_)|refine sj ?_|refine .inl (sv ?_)|refine sv ?_|refine cl ?_|refine s3 ?_|refine az ?_|refine rm ?_|refine VBs.own ?_|fail)<;>(try conv=>whnf))
      refine VLp.mk ⟨[], [5, 6, 14], [85], fun k vs h => ∃ (j : Nat) (g o : List Bun) (w : Int → Int), vs = [i64 j] ∧ h = [.blk 0 [i64 (w 0), i64 (w 1), i64 (w 2), i64 (w 3)] 33, .blk 1 [i64 (v 0), i64 (v 1), i64 (v 2), i64 (v 3)] 33, gB 2 g] ∧ Drain g w o ∧ runH w o = S1 ∧ o.length + j = S2.length ∧ k = S2.length - j, S2.length, ?_⟩
      conv => whnf
      refine ⟨⟨0, gN, S2, u, rfl, rfl, hD, hS1.symm, by omega, by omega⟩, ?_⟩
      rintro k vs h ⟨j, g, o, w, rfl, rfl, hDg, hrw, hoj, rfl⟩
      by_cases hjn : j < S2.length
      · obtain ⟨x, g', o', hn, hD', ho', hr', hSx, hRx⟩ := drain_step hDg (fun e => by rw [e, List.length_nil] at hoj; omega)
        have q3 := gnext_o g w hDg.gi (by rw [hDg.len]; omega)
        rw [hn] at q3
        unfold outE at q3
        dsimp only at q3
        have q4 := bbehind_a x hSx hRx w
        generalize behV w x = w' at *
        (try conv=>whnf)<;>repeat'((first|exact sNo|refine sT ?_|refine sF ?_|((first|refine sD ?_ ?_|refine sE ?_ ?_|refine sN ?_ ?_|refine sG ?_ ?_)<;>intro ht<;>(first|(cases ht;done)|skip))|refine wr ?_|refine ix ?_|refine ati ?_|refine row ?_|refine app ?_|refine dr ?_|refine VAnd.mk ?_ ?_|exact VJe.mk rfl ⟨rfl,rfl⟩|refine .inl (slM ?_)|refine .inl (slO ?_)|refine slM ?_|refine slO ?_|refine slN ?_|refine slS ?_|refine swB (swM fun C hC=>?_)|refine sj ?_|refine .inl (sv ?_)|refine sv ?_|refine cl ?_|refine s3 ?_|refine az ?_|refine rm ?_|refine VBs.own ?_|(refine co q3 ?_;rintro r h' ⟨rfl,rfl⟩)|refine cf q4 ?_|refine cg q4 ?_|refine cz q4 ?_|fail)<;>(try conv=>whnf))
        all_goals exact VRd.mk rfl ⟨S2.length - (j + 1), by omega, j + 1, g', o', w', rfl, rfl, hD', by rw [hr', hrw], by omega, rfl⟩
      · have ho : o = [] := List.eq_nil_of_length_eq_zero (by omega)
        subst ho
        have hg : g = [] := List.eq_nil_of_length_eq_zero hDg.len
        subst hg
        have hw : w = S1 := hrw
        subst hw
        have q3 := glen_a []
        have q4 := ratmost_a v w
        rw [hat] at q4
        (try conv=>whnf)<;>repeat'((first|exact sNo|refine sT ?_|refine sF ?_|((first|refine sD ?_ ?_|refine sE ?_ ?_|refine sN ?_ ?_|refine sG ?_ ?_)<;>intro ht<;>(first|(cases ht;done)|skip))|refine wr ?_|refine ix ?_|refine ati ?_|refine row ?_|refine app ?_|refine dr ?_|refine VAnd.mk ?_ ?_|exact VJe.mk rfl ⟨rfl,rfl⟩|refine .inl (slM ?_)|refine .inl (slO ?_)|refine slM ?_|refine slO ?_|refine slN ?_|refine slS ?_|refine swB (swM fun C hC=>?_)|refine sj ?_|refine .inl (sv ?_)|refine sv ?_|refine cl ?_|refine s3 ?_|refine az ?_|refine rm ?_|refine VBs.own ?_|refine cf q3 ?_|refine cg q3 ?_|refine cz q3 ?_|refine cf q4 ?_|refine cg q4 ?_|refine cz q4 ?_|fail)<;>(try conv=>whnf))
        all_goals rfl
end Go.Proofs.YtlghgdgpbnlpmaaGreat
