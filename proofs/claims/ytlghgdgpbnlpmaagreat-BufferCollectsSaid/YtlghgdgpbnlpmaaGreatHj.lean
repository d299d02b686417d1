/- What is proved: chapter 24's law function BufferSends answers true. Conditions: none. -/
import Derived.Test.YtlghgdgpbnlpmaaGreatHi
import Derived.Test.YtlghgdgpbnlpmaaGreatHg
namespace Go.Proofs.YtlghgdgpbnlpmaaGreat
open Go.RowKit
set_option linter.unusedVariables false
set_option linter.unusedSimpArgs false
set_option maxRecDepth 100000
set_option maxHeartbeats 100000000
theorem heard_BI (u : Int → Int) : BI (heardB (newBuf 0 3) 1 u) := BI.new.heard 1 u
theorem fill_of {l : List Bun} (u : Int → Int) (h64 : l.length ≤ 64) (hS : ∀ x ∈ l, SmB x) : FillI l (heardB (newBuf 0 3) 1 u) (fillB l (heardB (newBuf 0 3) 1 u)) := fill_spec (heard_BI u) rfl rfl _ l rfl h64 hS
attribute [local irreducible] AFnP AFn AFnR in
theorem filled24_o (l : List Bun) (u : Int → Int) (hS : ∀ x ∈ l, SmB x) (h60 : l.length ≤ 60) (hm : mayV u = true) : AFn Tryz.prog 36 [lstE bunE l, vecE u] [] (fun r h' => r = .tup [.op 0 0, .bool true] ∧ h' = [bufP 0 (fillB l (heardB (newBuf 0 3) 1 u))]) := by
  refine afn_in ty_ok Tryz.call36 Tryz.func36 rfl rfl (by decide +kernel) ?_
  have r1 := bnew_t (s := 0) (c := 3) rfl
  have r2 := bheard_o (newBuf 0 3) 1 u (by decide)
  have e : hearB (newBuf 0 3) 1 u = (heardB (newBuf 0 3) 1 u, 0) := by unfold hearB; rw [hm]; rfl
  rw [e] at r2
  dsimp only at r2
  obtain ⟨B, hB⟩ : ∃ B : Nat → Buf, ∀ i, B i = fillB (l.take i) (heardB (newBuf 0 3) 1 u) := ⟨_, fun _ => rfl⟩
  have hF : ∀ i, FillI (l.take i) (heardB (newBuf 0 3) 1 u) (B i) := fun i => by
    rw [hB]
    exact fill_of u (by rw [List.length_take]; omega) fun x hx => hS x (List.mem_of_mem_take hx)
  have hBI : ∀ i, BI (B i) := fun i => (hF i).bi
  have hBl : ∀ i, (B i).last < 1000000 := fun i => by
    have h1 := (hF i).last
    have h2 := (hF i).len
    rw [List.length_take] at h2
    omega
  have hBs : ∀ i (h : i < l.length), (addBuf (B i) l[i]).1 = B (i + 1) := fun i h => by rw [hB, hB, fillB_take h]
  have hB0 : heardB (newBuf 0 3) 1 u = B 0 := by rw [hB]; rfl
  have hBe : fillB l (heardB (newBuf 0 3) 1 u) = B l.length := by rw [hB, List.take_length]
  rw [hBe]
  rw [hB0] at r2
  clear hF hB hB0 hBe e
  generalize newBuf 0 3 = NB at *
  (try conv=>whnf)<;>repeat'((first|exact sNo|refine sT ?_|refine sF ?_|((first|refine sD ?_ ?_|refine sE ?_ ?_|refine sN ?_ ?_|refine sG ?_ ?_)<;>intro ht<;>(first|(cases ht;done)|skip))|refine wr ?_|refine ix ?_|refine ati ?_|refine row ?_|refine app ?_|refine dr ?_|refine VBs.own ?_|(refine co r1 ?_;rintro r h' ⟨rfl,rfl⟩)|(refine co r2 ?_;rintro r h' ⟨rfl,rfl⟩)|fail)<;>(try conv=>whnf))
  refine VLp.mk ⟨[], [3, 6], [25], fun k vs h => ∃ i : Nat, vs = [i64 i] ∧ h = [.blk 0 [i64 (u 0), i64 (u 1), i64 (u 2), i64 (u 3)] 33, bufP 1 (B i)] ∧ i ≤ l.length ∧ k = l.length - i, l.length, ?_⟩
  conv => whnf
  refine ⟨⟨0, rfl, rfl, by omega, by omega⟩, ?_⟩
  rintro k vs h ⟨i, rfl, rfl, hi, rfl⟩
  by_cases hin : i < l.length
  · have hSi := hS _ (List.getElem_mem hin)
    have q1 := badd_o (B i) l[i] (hBI i) hSi (hBl i)
    rw [hBs i hin] at q1
    have e2 : (addBuf (B i) l[i]).2.2 = if rightB l[i] = true then 0 else 1 := by unfold addBuf; split <;> rfl
    rw [e2] at q1
    generalize (addBuf (B i) l[i]).2.1 = sq at *
    cases hR : rightB l[i]
    · have q2 := rright_p hSi hR
      rw [hR, if_neg (by decide)] at q1
      (try conv=>whnf)<;>repeat'((first|exact sNo|refine sT ?_|refine sF ?_|((first|refine sD ?_ ?_|refine sE ?_ ?_|refine sN ?_ ?_|refine sG ?_ ?_)<;>intro ht<;>(first|(cases ht;done)|skip))|refine wr ?_|refine ix ?_|refine ati ?_|refine row ?_|refine app ?_|refine dr ?_|refine VBs.own ?_|(refine co q1 ?_;rintro r h' ⟨rfl,rfl⟩)|refine cf q2 ?_|refine cg q2 ?_|refine cz q2 ?_|fail)<;>(try conv=>whnf))
      all_goals exact VRd.mk rfl ⟨l.length - (i + 1), by omega, i + 1, rfl, rfl, by omega, rfl⟩
    · have q2 := rright_p hSi hR
      rw [hR, if_pos rfl] at q1
      (try conv=>whnf)<;>repeat'((first|exact sNo|refine sT ?_|refine sF ?_|((first|refine sD ?_ ?_|refine sE ?_ ?_|refine sN ?_ ?_|refine sG ?_ ?_)<;>intro ht<;>(first|(cases ht;done)|skip))|refine wr ?_|refine ix ?_|refine ati ?_|refine row ?_|refine app ?_|refine dr ?_|refine VBs.own ?_|(refine co q1 ?_;rintro r h' ⟨rfl,rfl⟩)|refine cf q2 ?_|refine cg q2 ?_|refine cz q2 ?_|fail)<;>(try conv=>whnf))
      all_goals exact VRd.mk rfl ⟨l.length - (i + 1), by omega, i + 1, rfl, rfl, by omega, rfl⟩
  · obtain rfl : i = l.length := by omega
    (try conv=>whnf)<;>repeat'((first|exact sNo|refine sT ?_|refine sF ?_|((first|refine sD ?_ ?_|refine sE ?_ ?_|refine sN ?_ ?_|refine sG ?_ ?_)<;>intro ht<;>(first|(cases ht;done)|skip))|refine wr ?_|refine ix ?_|refine ati ?_|refine row ?_|refine app ?_|refine dr ?_|refine VBs.own ?_|fail)<;>(try conv=>whnf))
    all_goals exact VRt.mk rfl ⟨rfl, rfl⟩
/-- what is filled, and what is sent of it -/
structure SentI (l : List Bun) (u v : Int → Int) (b : Buf) (S : SS) : Prop where
  fill : FillI l (heardB (newBuf 0 3) 1 u) b
  for_ : forS b 1 = S
  sent : Sent (b.m.map (·.2)) u S
  ok : forOk b 1 v 64 = true
  cn : b.cn ≤ 4
  has : ofB b 1 = u
  take : S.2.take (64 : Int).toNat = S.2
  lsm : ∀ x ∈ S.2, SmB x
theorem sent_of {l : List Bun} {u v : Int → Int} (hu : mayV u = true) (hz : mxV (fun _ => 0) u = u) (hv : mayV v = true) (h60 : l.length ≤ 60) (hS : ∀ x ∈ l, SmB x) :
    ∃ b S, b = fillB l (heardB (newBuf 0 3) 1 u) ∧ SentI l u v b S := by
  have hF := fill_of (l := l) u (by omega) hS
  refine ⟨_, forS (fillB l (heardB (newBuf 0 3) 1 u)) 1, rfl, ?_⟩
  generalize fillB l (heardB (newBuf 0 3) 1 u) = b at *
  have hh : b.has 1 = u := by
    rw [hF.has]
    show (if (1 : Int) = 1 then mxV (fun _ => 0) u else (newBuf 0 3).has 1) = u
    rw [if_pos rfl, hz]
  have hself : b.self = 0 := hF.self
  have hcn : b.cn = 3 := hF.cn
  have hp : peerB b 1 = true := by unfold peerB; rw [hself, hcn]; rfl
  have hR : ∀ x ∈ b.m.map (·.2), rightB x = true := fun x hx => by
    obtain ⟨p, hp, rfl⟩ := List.mem_map.1 hx
    exact (hF.bi.ok p hp).1
  have hs := sent_iter hR u
  have e : forS b 1 = iterS (b.m.map (·.2)) (b.m.map (·.2)).length (u, []) := by unfold forS; rw [hh, List.length_map]
  rw [← e] at hs
  have hl := hs.len
  rw [List.length_map] at hl
  have := hF.len
  refine ⟨hF, rfl, hs, by unfold forOk; rw [hp, hv]; rfl, by omega, ?_, List.take_of_length_le (by show _ ≤ 64; omega), fun x hx => ?_⟩
  · funext k
    unfold ofB
    rw [if_pos hp, hh]
  · obtain ⟨p, hp, rfl⟩ := List.mem_map.1 (hs.sub x hx)
    exact (hF.bi.ok p hp).2
attribute [local irreducible] AFnP AFn AFnR in
theorem lawSends_a (l : List Bun) (hb : ∀ b ∈ l, bndT b.t) (u0 v : Int → Int) : AFnP Tryz.prog 7 [lstE bunE l, vecE u0, vecE v] (.bool true) := by
  refine afp ty_ok Tryz.call7 Tryz.func7 ?_
  rw [nrm_E u0]
  have hz := nrm_mx (v := u0)
  generalize nrmV u0 = u at *
  have r0 := awake24_a
  cases hs : (decide (l.length ≤ 40) && l.all fun b => smallB b 30)
  · have s1 := rsmalls24_p (n := 40) (by decide) hb hs
    (try conv=>whnf)<;>repeat'((first|exact sNo|refine sT ?_|refine sF ?_|((first|refine sD ?_ ?_|refine sE ?_ ?_|refine sN ?_ ?_|refine sG ?_ ?_)<;>intro ht<;>(first|(cases ht;done)|skip))|refine wr ?_|refine ix ?_|refine ati ?_|refine row ?_|refine app ?_|refine dr ?_|refine VBs.own ?_|refine cf r0 ?_|refine cg r0 ?_|refine cz r0 ?_|refine cf s1 ?_|refine cg s1 ?_|refine cz s1 ?_|fail)<;>(try conv=>whnf))
    all_goals rfl
  have s1 := rsmalls24_p (n := 40) (by decide) hb hs
  cases hm : mayV u
  · have m1 := rmay_p hm
    (try conv=>whnf)<;>repeat'((first|exact sNo|refine sT ?_|refine sF ?_|((first|refine sD ?_ ?_|refine sE ?_ ?_|refine sN ?_ ?_|refine sG ?_ ?_)<;>intro ht<;>(first|(cases ht;done)|skip))|refine wr ?_|refine ix ?_|refine ati ?_|refine row ?_|refine app ?_|refine dr ?_|refine VBs.own ?_|refine cf r0 ?_|refine cg r0 ?_|refine cz r0 ?_|refine cf s1 ?_|refine cg s1 ?_|refine cz s1 ?_|refine cf m1 ?_|refine cg m1 ?_|refine cz m1 ?_|fail)<;>(try conv=>whnf))
    all_goals rfl
  have m1 := rmay_p hm
  cases hv : mayV v
  · have m2 := rmay_p hv
    (try conv=>whnf)<;>repeat'((first|exact sNo|refine sT ?_|refine sF ?_|((first|refine sD ?_ ?_|refine sE ?_ ?_|refine sN ?_ ?_|refine sG ?_ ?_)<;>intro ht<;>(first|(cases ht;done)|skip))|refine wr ?_|refine ix ?_|refine ati ?_|refine row ?_|refine app ?_|refine dr ?_|refine VBs.own ?_|refine cf r0 ?_|refine cg r0 ?_|refine cz r0 ?_|refine cf s1 ?_|refine cg s1 ?_|refine cz s1 ?_|refine cf m1 ?_|refine cg m1 ?_|refine cz m1 ?_|refine cf m2 ?_|refine cg m2 ?_|refine cz m2 ?_|fail)<;>(try conv=>whnf))
    all_goals rfl
  have m2 := rmay_p hv
  rw [Bool.and_eq_true, decide_eq_true_eq] at hs
  obtain ⟨h40, hs⟩ := hs
  have hS : ∀ b ∈ l, SmB b := fun b h => small_SmB (n := 30) (by decide) (List.all_eq_true.1 hs b h)
  have q1 := filled24_o l u hS (by omega) hm
  obtain ⟨b, ⟨S1, S2⟩, hbe, hI⟩ := sent_of (l := l) hm (hz hm) hv (by omega) hS
  rw [← hbe] at q1
  have q2 := bfor_o b 1 v 64 hI.fill.bi hI.cn hI.ok
  have q3 := bhas_a b hI.cn 1
  have htk := hI.take
  dsimp only at htk
  rw [hI.for_] at q2
  dsimp only at q2
  rw [htk] at q2
  rw [hI.has] at q3
  have hrun := hI.sent.run
  have hS1 := hI.sent.hs
  have hlsm := hI.lsm
  have hno := hI.sent.none
  have hlen2 := hI.sent.len
  have hlen3 := hI.fill.len
  rw [List.length_map] at hlen2
  rw [hI.fill.m] at hno
  dsimp only at hrun hS1 hlsm hno hlen2
  have hready : ∀ x ∈ l, readyB x S1 = false := fun x hx => by
    cases hR : rightB x
    · unfold readyB
      rw [hR]
      rfl
    · exact hno x (List.mem_filter.2 ⟨hx, hR⟩)
  obtain ⟨H, hH⟩ : ∃ H : Nat → Int → Int, ∀ i, H i = runH u (S2.take i) := ⟨_, fun _ => rfl⟩
  have hH0 : u = H 0 := by rw [hH]; rfl
  have hHs : ∀ i (h : i < S2.length), behV (H i) S2[i] = H (i + 1) := fun i h => by rw [hH, hH, runH_take h]
  have hHr : ∀ i (h : i < S2.length), readyB S2[i] (H i) = true := fun i h => by rw [hH]; exact Run_at hrun h
  have hHe : S1 = H S2.length := by rw [hS1, hH, List.take_length]
  rw [hHe] at hready q2
  have h64 : S2.length ≤ 60 := by omega
  clear hS1 hH hHe hno hrun hI hbe hlen2 hlen3 htk hz hm hs hv
  have q9 := ratmost_a v (H S2.length)
  generalize atMost v (H S2.length) = t at *
  cases t
  all_goals
    (try conv=>whnf)<;>repeat'((first|refine sF ?_ (vec_same _)|(refine pr ?_;(try conv=>whnf);(fail_if_success (show False)))|exact sNo|refine sT ?_|refine sF ?_|((first|refine sD ?_ ?_|refine sE ?_ ?_|refine sN ?_ ?_|refine sG ?_ ?_)<;>intro ht<;>(first|(cases ht;done)|skip))|refine wr ?_|refine ix ?_|refine ati ?_|refine row ?_|refine app ?_|refine dr ?_|refine VBs.own ?_|refine cp r0 ?_|refine cf r0 ?_|refine cg r0 ?_|refine cz r0 ?_|refine cp s1 ?_|refine cf s1 ?_|refine cg s1 ?_|refine cz s1 ?_|refine cp m1 ?_|refine cf m1 ?_|refine cg m1 ?_|refine cz m1 ?_|refine cp m2 ?_|refine cf m2 ?_|refine cg m2 ?_|refine cz m2 ?_|(refine co q1 ?_;rintro r h' ⟨rfl,rfl⟩)|(refine co q2 ?_;rintro r h' ⟨rfl,rfl⟩)|refine cp q3 ?_|refine cf q3 ?_|refine cg q3 ?_|refine cz q3 ?_|fail)<;>(try conv=>whnf))
    refine VLp.mk ⟨[], [4, 5, 7, 9], [57], fun k vs h => ∃ i : Nat, vs = [i64 i] ∧ h = [.blk 0 [i64 (H i 0), i64 (H i 1), i64 (H i 2), i64 (H i 3)] 33, .blk 1 [i64 (v 0), i64 (v 1), i64 (v 2), i64 (v 3)] 33, bufP 2 b, .row 3 50 10 (S2.map bunE)] ∧ i ≤ S2.length ∧ k = S2.length - i, S2.length, ?_⟩
    conv => whnf
    refine ⟨⟨0, rfl, by rw [← hH0] <;> rfl, by omega, by omega⟩, ?_⟩
    rintro k vs h ⟨i, rfl, rfl, hi, rfl⟩
    by_cases hin : i < S2.length
    · have hSi := hlsm _ (List.getElem_mem hin)
      have hRi := hHr i hin
      have q4 := bready_p hSi hRi
      have q5 := bbehind_a S2[i] hSi (ready_iff.1 hRi).1 (H i)
      rw [hHs i hin] at q5
      (try conv=>whnf)<;>repeat'((first|exact sNo|refine sT ?_|refine sF ?_|((first|refine sD ?_ ?_|refine sE ?_ ?_|refine sN ?_ ?_|refine sG ?_ ?_)<;>intro ht<;>(first|(cases ht;done)|skip))|refine wr ?_|refine ix ?_|refine ati ?_|refine row ?_|refine app ?_|refine dr ?_|refine VBs.own ?_|refine cf q4 ?_|refine cg q4 ?_|refine cz q4 ?_|refine cf q5 ?_|refine cg q5 ?_|refine cz q5 ?_|fail)<;>(try conv=>whnf))
      all_goals exact VRd.mk rfl ⟨S2.length - (i + 1), by omega, i + 1, rfl, rfl, by omega, rfl⟩
    · obtain rfl : i = S2.length := by omega
      (try conv=>whnf)<;>repeat'((first|exact sNo|refine sT ?_|refine sF ?_|((first|refine sD ?_ ?_|refine sE ?_ ?_|refine sN ?_ ?_|refine sG ?_ ?_)<;>intro ht<;>(first|(cases ht;done)|skip))|refine wr ?_|refine ix ?_|refine ati ?_|refine row ?_|refine app ?_|refine dr ?_|refine VBs.own ?_|fail)<;>(try conv=>whnf))
      refine VLp.mk ⟨[], [4, 5], [76], fun k vs h => ∃ j : Nat, vs = [i64 j] ∧ h = [.blk 0 [i64 (H S2.length 0), i64 (H S2.length 1), i64 (H S2.length 2), i64 (H S2.length 3)] 33, .blk 1 [i64 (v 0), i64 (v 1), i64 (v 2), i64 (v 3)] 33] ∧ j ≤ l.length ∧ k = l.length - j, l.length, ?_⟩
      conv => whnf
      refine ⟨⟨0, rfl, rfl, by omega, by omega⟩, ?_⟩
      rintro k vs h ⟨j, rfl, rfl, hj, rfl⟩
      by_cases hjn : j < l.length
      · have q4 := bready_p (hS _ (List.getElem_mem hjn)) (hready _ (List.getElem_mem hjn))
        (try conv=>whnf)<;>repeat'((first|exact sNo|refine sT ?_|refine sF ?_|((first|refine sD ?_ ?_|refine sE ?_ ?_|refine sN ?_ ?_|refine sG ?_ ?_)<;>intro ht<;>(first|(cases ht;done)|skip))|refine wr ?_|refine ix ?_|refine ati ?_|refine row ?_|refine app ?_|refine dr ?_|refine VBs.own ?_|refine cf q4 ?_|refine cg q4 ?_|refine cz q4 ?_|fail)<;>(try conv=>whnf))
        all_goals exact VRd.mk rfl ⟨l.length - (j + 1), by omega, j + 1, rfl, rfl, by omega, rfl⟩
      · (try conv=>whnf)<;>repeat'((first|exact sNo|refine sT ?_|refine sF ?_|((first|refine sD ?_ ?_|refine sE ?_ ?_|refine sN ?_ ?_|refine sG ?_ ?_)<;>intro ht<;>(first|(cases ht;done)|skip))|refine wr ?_|refine ix ?_|refine ati ?_|refine row ?_|refine app ?_|refine dr ?_|refine VBs.own ?_|refine cf q9 ?_|refine cg q9 ?_|refine cz q9 ?_|fail)<;>(try conv=>whnf))
        all_goals rfl
end Go.Proofs.YtlghgdgpbnlpmaaGreat
