/- What is proved: what the methods of gates answer and do. Conditions: none. -/
import Derived.Test.YtlghgdgpbnlpmaaGreatGh
namespace Go.Proofs.YtlghgdgpbnlpmaaGreat
open Go.RowKit
set_option linter.unusedVariables false
set_option linter.unusedSimpArgs false
set_option maxRecDepth 100000
set_option maxHeartbeats 16000000
abbrev gE (l : List Bun) : AV := lstE prB (gm l)
abbrev gB (id : Nat) (l : List Bun) : AP := .blk id [lstE prB (gm l)] 28
theorem gkey_a (b : Bun) (h : rightB b = true) : AFnP Tryz.prog 57 [.agg (bunE b)] (i64 (keyB b)) := by
  refine afp ty_ok Tryz.call57 Tryz.func57 ?_
  obtain ⟨⟨⟨h0, h4⟩, h1, h2, h3, h5⟩, h6⟩ := right_nums h
  (try conv=>whnf)<;>repeat'((first|exact sNo|refine sT ?_|refine sF ?_|((first|refine sD ?_ ?_|refine sE ?_ ?_|refine sN ?_ ?_|refine sG ?_ ?_)<;>intro ht<;>(first|(cases ht;done)|skip))|refine wr ?_|refine ix ?_|refine ati ?_|refine row ?_|refine app ?_|refine dr ?_|refine VBs.own ?_|fail)<;>(try conv=>whnf))
  all_goals rfl
theorem glen_a (l : List Bun) : AFnP Tryz.prog 20 [.fp [gE l] 0] (i64 (l.length : Nat)) := by
  refine afp ty_ok Tryz.call20 Tryz.func20 ?_
  have r1 := lenB_a (gm l)
  rw [gm_len] at r1
  unfold gE
  generalize gm l = m at *
  (try conv=>whnf)<;>repeat'((first|exact sNo|refine sT ?_|refine sF ?_|((first|refine sD ?_ ?_|refine sE ?_ ?_|refine sN ?_ ?_|refine sG ?_ ?_)<;>intro ht<;>(first|(cases ht;done)|skip))|refine wr ?_|refine ix ?_|refine ati ?_|refine row ?_|refine app ?_|refine dr ?_|refine VBs.own ?_|refine cf r1 ?_|refine cg r1 ?_|refine cz r1 ?_|fail)<;>(try conv=>whnf))
  all_goals rfl
theorem gadd_o (l : List Bun) (b : Bun) (hG : GI l) (hl : l.length ≤ 64) (hb : SmB b) : AFn Tryz.prog 14 [.op 0 0, .agg (bunE b)] [gB 0 l] (fun r h' => r = .tup [.bool (addG l b).2.1, i64 (addG l b).2.2] ∧ h' = [gB 0 (addG l b).1]) := by
  refine afn_in ty_ok Tryz.call14 Tryz.func14 rfl rfl (by decide +kernel) ?_
  unfold gB
  have hml := gm_len l
  cases hR : rightB b
  · have r1 := bright_p hb hR
    rw [addG_no hR]
    (try conv=>whnf)<;>repeat'((first|exact sNo|refine sT ?_|refine sF ?_|((first|refine sD ?_ ?_|refine sE ?_ ?_|refine sN ?_ ?_|refine sG ?_ ?_)<;>intro ht<;>(first|(cases ht;done)|skip))|refine wr ?_|refine ix ?_|refine ati ?_|refine row ?_|refine app ?_|refine dr ?_|refine VBs.own ?_|refine cf r1 ?_|refine cg r1 ?_|refine cz r1 ?_|fail)<;>(try conv=>whnf))
    all_goals exact VRt.mk rfl ⟨rfl, rfl⟩
  have r1 := bright_p hb hR
  have r2 := gkey_a b hR
  have r3 := getB_a (gm l) (by omega) hG.srt (keyB b)
  cases hF : fndG b l
  · rw [get_none hF] at r3
    have r4 := lenB_a (gm l)
    rw [hml] at r4
    by_cases h64 : 64 ≤ l.length
    · rw [addG_full hR hF h64]
      generalize gm l = m at *
      (try conv=>whnf)<;>repeat'((first|(refine drx [1006,2000] [] [] ?_;(try conv=>whnf);(fail_if_success (show False)))|exact sNo|refine sT ?_|refine sF ?_|((first|refine sD ?_ ?_|refine sE ?_ ?_|refine sN ?_ ?_|refine sG ?_ ?_)<;>intro ht<;>(first|(cases ht;done)|skip))|refine wr ?_|refine ix ?_|refine ati ?_|refine row ?_|refine app ?_|refine dr ?_|refine VBs.own ?_|refine VAnd.mk ?_ ?_|refine cp r1 ?_|refine cf r1 ?_|refine cg r1 ?_|refine cz r1 ?_|refine cp r2 ?_|refine cf r2 ?_|refine cg r2 ?_|refine cz r2 ?_|refine cp r3 ?_|refine cf r3 ?_|refine cg r3 ?_|refine cz r3 ?_|refine cp r4 ?_|refine cf r4 ?_|refine cg r4 ?_|refine cz r4 ?_|fail)<;>(try conv=>whnf))
      all_goals exact VRt.mk rfl ⟨rfl, rfl⟩
    · rw [addG_in hR hF h64]
      have r5 := bclone_t b hb hR
      have r6 := putB_a (gm l) (by omega) hG.srt (keyB b) b
      rw [insG_gm hF] at r6
      dsimp only
      generalize gm (insG b l) = m' at *
      generalize gm l = m at *
      (try conv=>whnf)<;>repeat'((first|(refine drx [1006,1008,1009,2000] [] [] ?_;(try conv=>whnf);(fail_if_success (show False)))|exact sNo|refine sT ?_|refine sF ?_|((first|refine sD ?_ ?_|refine sE ?_ ?_|refine sN ?_ ?_|refine sG ?_ ?_)<;>intro ht<;>(first|(cases ht;done)|skip))|refine wr ?_|refine ix ?_|refine ati ?_|refine row ?_|refine app ?_|refine dr ?_|refine VBs.own ?_|refine VAnd.mk ?_ ?_|refine cp r1 ?_|refine cf r1 ?_|refine cg r1 ?_|refine cz r1 ?_|refine cp r2 ?_|refine cf r2 ?_|refine cg r2 ?_|refine cz r2 ?_|refine cp r3 ?_|refine cf r3 ?_|refine cg r3 ?_|refine cz r3 ?_|refine cp r4 ?_|refine cf r4 ?_|refine cg r4 ?_|refine cz r4 ?_|refine cp r5 ?_|refine cf r5 ?_|refine cg r5 ?_|refine cz r5 ?_|refine cp r6 ?_|refine cf r6 ?_|refine cg r6 ?_|refine cz r6 ?_|fail)<;>(try conv=>whnf))
      all_goals exact VRt.mk rfl ⟨rfl, rfl⟩
  · obtain ⟨x, hx⟩ := get_some hF
    rw [hx] at r3
    rw [addG_there hR hF]
    generalize gm l = m at *
    (try conv=>whnf)<;>repeat'((first|(refine drx [1006,2000] [] [] ?_;(try conv=>whnf);(fail_if_success (show False)))|exact sNo|refine sT ?_|refine sF ?_|((first|refine sD ?_ ?_|refine sE ?_ ?_|refine sN ?_ ?_|refine sG ?_ ?_)<;>intro ht<;>(first|(cases ht;done)|skip))|refine wr ?_|refine ix ?_|refine ati ?_|refine row ?_|refine app ?_|refine dr ?_|refine VBs.own ?_|refine VAnd.mk ?_ ?_|refine cp r1 ?_|refine cf r1 ?_|refine cg r1 ?_|refine cz r1 ?_|refine cp r2 ?_|refine cf r2 ?_|refine cg r2 ?_|refine cz r2 ?_|refine cp r3 ?_|refine cf r3 ?_|refine cg r3 ?_|refine cz r3 ?_|fail)<;>(try conv=>whnf))
    all_goals exact VRt.mk rfl ⟨rfl, rfl⟩
/-! Next -/
def zeroN : List AV := [i64 0, i64 0, i64 0, i64 0, i64 0, i64 0, i64 0, .nils, .nils, .nils]
def outE (b : Bun) (f : Bool) : List AV := match f with | true => bunE b | false => zeroN
theorem prB_row {l : List Bun} {i : Nat} (h : i < l.length) : ((gm l).map prB)[i]? = some (i64 (keyB l[i]) :: bunE l[i]) := by
  unfold gm
  rw [List.map_map, List.getElem?_map, List.getElem?_eq_getElem h]
  rfl
theorem split_at {l : List Bun} {i : Nat} (h : i < l.length) : l = l.take i ++ l[i] :: l.drop (i + 1) := by rw [← List.drop_eq_getElem_cons h, List.take_append_drop]
theorem gnext_o (l : List Bun) (v : Int → Int) (hG : GI l) (hl : l.length ≤ 64) : AFn Tryz.prog 16 [.op 0 0, vecE v] [gB 0 l] (fun r h' => r = .tup [.agg (outE (nextG l v).2.1 (nextG l v).2.2), .bool (nextG l v).2.2] ∧ h' = [gB 0 (nextG l v).1]) := by
  refine afn_in ty_ok Tryz.call16 Tryz.func16 rfl rfl (by decide +kernel) ?_
  unfold gB
  have r1 := allB_a (gm l) (by rw [gm_len]; omega)
  have hrow := fun i (h : i < l.length) => prB_row (l := l) h
  -- the list in the gate, by rounds
  obtain ⟨N, hN⟩ : ∃ N : Nat → Nat, ∀ i, N i = (gm (midG l v i)).length := ⟨_, fun _ => rfl⟩
  obtain ⟨R, hR⟩ : ∃ R : Nat → List (List AV), ∀ i, R i = (gm (midG l v i)).map prB := ⟨_, fun _ => rfl⟩
  have e0 : lstE prB (gm l) = .lst (N 0) (R 0) := by rw [hN, hR, midG_zero, lstE]
  have e0N : N 0 = l.length := by rw [hN, midG_zero, gm_len]
  have e0R : R 0 = (gm l).map prB := by rw [hR, midG_zero]
  have hdel : ∀ i (h : i < l.length), knownB l[i] v = true → AFnP Tryz.prog 63 [.agg [.lst (N i) (R i)], i64 (keyB l[i])] (.agg [.lst (N (i + 1)) (R (i + 1))]) := fun i h hk => by
    have r := delB_a (gm (midG l v i)) (by have := midG_len l v i; rw [gm_len]; omega) (hG.sub (midG_sub l v i)).srt (keyB l[i])
    rw [midG_del hG h hk] at r
    unfold lstE at r
    rw [← hN, ← hR, ← hN, ← hR] at r
    exact r
  have hstay : ∀ i (h : i < l.length), knownB l[i] v = false → N (i + 1) = N i ∧ R (i + 1) = R i := fun i h hk => by
    rw [hN, hN, hR, hR, midG_succ h, if_neg (by rw [hk]; decide)]
    exact ⟨rfl, rfl⟩
  rw [e0] at r1 ⊢
  rw [← e0R] at hrow
  clear e0 e0R
  (try conv=>whnf)<;>repeat'((first|exact sNo|refine sT ?_|refine sF ?_|((first|refine sD ?_ ?_|refine sE ?_ ?_|refine sN ?_ ?_|refine sG ?_ ?_)<;>intro ht<;>(first|(cases ht;done)|skip))|refine wr ?_|refine ix ?_|refine ati ?_|refine row ?_|refine app ?_|refine dr ?_|refine VBs.own ?_|refine cf r1 ?_|refine cg r1 ?_|refine cz r1 ?_|fail)<;>(try conv=>whnf))
  refine VLp.mk ⟨[], [3, 4], [19], fun k vs h => ∃ i : Nat, vs = [i64 i] ∧ h = [.blk 0 [.lst (N i) (R i)] 28, .blk 1 [i64 (v 0), i64 (v 1), i64 (v 2), i64 (v 3)] 33, .blk 2 zeroN 50] ∧ i ≤ l.length ∧ k = l.length - i, l.length, ?_⟩
  conv => whnf
  refine ⟨⟨0, rfl, rfl, by omega, by omega⟩, ?_⟩
  rintro k vs h ⟨i, rfl, rfl, hi, rfl⟩
  by_cases hin : i < l.length
  · have hr := hrow i hin
    have hS := (hG.ok _ (List.getElem_mem hin)).2
    cases hk : knownB l[i] v
    · have q1 := bknown_p hS hk
      obtain ⟨g1, g2⟩ := hstay i hin hk
      (try conv=>whnf)<;>repeat'((first|exact sNo|refine sT ?_|refine sF ?_|((first|refine sD ?_ ?_|refine sE ?_ ?_|refine sN ?_ ?_|refine sG ?_ ?_)<;>intro ht<;>(first|(cases ht;done)|skip))|refine wr ?_|refine ix ?_|refine ati ?_|refine row ?_|refine app ?_|refine dr ?_|refine VBs.own ?_|refine cf q1 ?_|refine cg q1 ?_|refine cz q1 ?_|fail)<;>(try conv=>whnf))
      all_goals exact VRd.mk rfl ⟨l.length - (i + 1), by omega, i + 1, rfl, by rw [g1, g2]; rfl, by omega, rfl⟩
    · have q1 := bknown_p hS hk
      have q2 := hdel i hin hk
      (try conv=>whnf)<;>repeat'((first|(refine drx [1007] [] [] ?_;(try conv=>whnf);(fail_if_success (show False)))|exact sNo|refine sT ?_|refine sF ?_|((first|refine sD ?_ ?_|refine sE ?_ ?_|refine sN ?_ ?_|refine sG ?_ ?_)<;>intro ht<;>(first|(cases ht;done)|skip))|refine wr ?_|refine ix ?_|refine ati ?_|refine row ?_|refine app ?_|refine dr ?_|refine VBs.own ?_|refine cp q1 ?_|refine cf q1 ?_|refine cg q1 ?_|refine cz q1 ?_|refine cp q2 ?_|refine cf q2 ?_|refine cg q2 ?_|refine cz q2 ?_|fail)<;>(try conv=>whnf))
      all_goals exact VRd.mk rfl ⟨l.length - (i + 1), by omega, i + 1, rfl, rfl, by omega, rfl⟩
  · obtain rfl : i = l.length := by omega
    -- the second loop
    have hG2 := hG.sub (restG_sub l v)
    have hl2 := (restG_sub l v).length_le
    have hN' := hN l.length
    have hR' := hR l.length
    rw [midG_end] at hN' hR'
    have r2 := allB_a (gm (restG l v)) (by rw [gm_len]; omega)
    have hrow2 := fun i (h : i < (restG l v).length) => prB_row (l := restG l v) h
    have hdel2 : ∀ i (h : i < (restG l v).length), AFnP Tryz.prog 63 [.agg [lstE prB (gm (restG l v))], i64 (keyB (restG l v)[i])] (.agg [lstE prB (gm ((restG l v).take i ++ (restG l v).drop (i + 1)))]) := fun i h => by
      have r := delB_a (gm (restG l v)) (by rw [gm_len]; omega) hG2.srt (keyB (restG l v)[i])
      have e := split_at h
      have hs := hG2.srt
      rw [e] at hs
      have d := del_mid hs
      rw [← e] at d
      rw [d] at r
      exact r
    have hnone := nextG_none (l := l) (v := v)
    have hsome := fun i => nextG_some (l := l) (v := v) (i := i)
    have hok := hG2.ok
    unfold lstE at r2 hdel2 ⊢
    have hlen := gm_len (restG l v)
    rw [← hN'] at r2 hdel2 hlen
    rw [← hR'] at r2 hdel2 hrow2
    clear hN hR hdel hstay hrow hG2 hG
    generalize restG l v = L at *
    generalize N l.length = n at *
    generalize R l.length = Q at *
    (try conv=>whnf)<;>repeat'((first|exact sNo|refine sT ?_|refine sF ?_|((first|refine sD ?_ ?_|refine sE ?_ ?_|refine sN ?_ ?_|refine sG ?_ ?_)<;>intro ht<;>(first|(cases ht;done)|skip))|refine wr ?_|refine ix ?_|refine ati ?_|refine row ?_|refine app ?_|refine dr ?_|refine VBs.own ?_|refine cf r2 ?_|refine cg r2 ?_|refine cz r2 ?_|fail)<;>(try conv=>whnf))
    refine VLp.mk ⟨[], [3, 4], [44], fun k vs h => ∃ i : Nat, vs = [i64 i] ∧ h = [.blk 0 [.lst n Q] 28, .blk 1 [i64 (v 0), i64 (v 1), i64 (v 2), i64 (v 3)] 33, .blk 2 zeroN 50] ∧ i ≤ L.length ∧ k = L.length - i ∧ ∀ j (hj : j < i) (hjl : j < L.length), readyB L[j] v = false, L.length, ?_⟩
    conv => whnf
    refine ⟨⟨0, rfl, rfl, by omega, by omega, fun j hj => by omega⟩, ?_⟩
    rintro k vs h ⟨i, rfl, rfl, hi, rfl, hg⟩
    by_cases hin : i < L.length
    · have hr := hrow2 i hin
      have hS := (hok _ (List.getElem_mem hin)).2
      cases hk : readyB L[i] v
      · have q1 := bready_p hS hk
        (try conv=>whnf)<;>repeat'((first|exact sNo|refine sT ?_|refine sF ?_|((first|refine sD ?_ ?_|refine sE ?_ ?_|refine sN ?_ ?_|refine sG ?_ ?_)<;>intro ht<;>(first|(cases ht;done)|skip))|refine wr ?_|refine ix ?_|refine ati ?_|refine row ?_|refine app ?_|refine dr ?_|refine VBs.own ?_|refine cf q1 ?_|refine cg q1 ?_|refine cz q1 ?_|fail)<;>(try conv=>whnf))
        all_goals exact VRd.mk rfl ⟨L.length - (i + 1), by omega, i + 1, rfl, rfl, by omega, rfl, fun j hj hjl => by rcases Nat.lt_succ_iff_lt_or_eq.1 hj with h | rfl; exact hg j h hjl; exact hk⟩
      · have q1 := bready_p hS hk
        have q2 := hdel2 i hin
        rw [hsome i hin hk hg]
        unfold outE
        dsimp only
        generalize gm (L.take i ++ L.drop (i + 1)) = m at *
        (try conv=>whnf)<;>repeat'((first|(refine drx [1007] [] [] ?_;(try conv=>whnf);(fail_if_success (show False)))|exact sNo|refine sT ?_|refine sF ?_|((first|refine sD ?_ ?_|refine sE ?_ ?_|refine sN ?_ ?_|refine sG ?_ ?_)<;>intro ht<;>(first|(cases ht;done)|skip))|refine wr ?_|refine ix ?_|refine ati ?_|refine row ?_|refine app ?_|refine dr ?_|refine VBs.own ?_|refine cp q1 ?_|refine cf q1 ?_|refine cg q1 ?_|refine cz q1 ?_|refine cp q2 ?_|refine cf q2 ?_|refine cg q2 ?_|refine cz q2 ?_|fail)<;>(try conv=>whnf))
        all_goals exact VRt.mk rfl ⟨rfl, rfl⟩
    · rw [hnone (fun j hj => hg j (by omega) hj)]
      unfold outE
      dsimp only
      (try conv=>whnf)<;>repeat'((first|exact sNo|refine sT ?_|refine sF ?_|((first|refine sD ?_ ?_|refine sE ?_ ?_|refine sN ?_ ?_|refine sG ?_ ?_)<;>intro ht<;>(first|(cases ht;done)|skip))|refine wr ?_|refine ix ?_|refine ati ?_|refine row ?_|refine app ?_|refine dr ?_|refine VBs.own ?_|fail)<;>(try conv=>whnf))
      all_goals exact VRt.mk rfl ⟨rfl, by rw [hN', hR']⟩
/-! All, Clear -/
theorem bun_take {l : List Bun} {i : Nat} (h : i < l.length) : (l.take i).map bunE ++ [bunE l[i]] = (l.take (i + 1)).map bunE := by
  rw [← take_snoc h, List.map_append, List.map_singleton]
theorem gall_o (l : List Bun) (hG : GI l) (hl : l.length ≤ 64) : AFn Tryz.prog 22 [.op 0 0] [gB 0 l] (fun r h' => r = .own 1 l.length ∧ h' = [gB 0 l, .row 1 50 10 (l.map bunE)]) := by
  refine afn_in ty_ok Tryz.call22 Tryz.func22 rfl rfl (by decide +kernel) ?_
  unfold gB
  have r1 := allB_a (gm l) (by rw [gm_len]; omega)
  have hrow := fun i (h : i < l.length) => prB_row (l := l) h
  have hlen := gm_len l
  unfold lstE at r1 ⊢
  generalize (gm l).map prB = R at *
  generalize (gm l).length = n at *
  (try conv=>whnf)<;>repeat'((first|exact sNo|refine sT ?_|refine sF ?_|((first|refine sD ?_ ?_|refine sE ?_ ?_|refine sN ?_ ?_|refine sG ?_ ?_)<;>intro ht<;>(first|(cases ht;done)|skip))|refine wr ?_|refine ix ?_|refine ati ?_|refine row ?_|refine app ?_|refine dr ?_|refine VBs.own ?_|refine cf r1 ?_|refine cg r1 ?_|refine cz r1 ?_|fail)<;>(try conv=>whnf))
  refine VLp.mk ⟨[.slot 3 50 10], [], [3, 14], fun k vs h => ∃ i : Nat, vs = [.own 1 i, i64 i] ∧ h = [.blk 0 [.lst n R] 28, .row 1 50 10 ((l.take i).map bunE)] ∧ i ≤ l.length ∧ k = l.length - i, l.length, ?_⟩
  conv => whnf
  refine ⟨⟨0, rfl, rfl, by omega, by omega⟩, ?_⟩
  rintro k vs h ⟨i, rfl, rfl, hi, rfl⟩
  by_cases hin : i < l.length
  · have hr := hrow i hin
    obtain ⟨h1, hS⟩ := hG.ok _ (List.getElem_mem hin)
    have q1 := bclone_t l[i] hS h1
    have ht := bun_take hin
    (try conv=>whnf)<;>repeat'((first|exact sNo|refine sT ?_|refine sF ?_|((first|refine sD ?_ ?_|refine sE ?_ ?_|refine sN ?_ ?_|refine sG ?_ ?_)<;>intro ht<;>(first|(cases ht;done)|skip))|refine wr ?_|refine ix ?_|refine ati ?_|refine row ?_|refine app ?_|refine dr ?_|refine VBs.own ?_|refine cf q1 ?_|refine cg q1 ?_|refine cz q1 ?_|fail)<;>(try conv=>whnf))
    all_goals exact VRd.mk rfl ⟨l.length - (i + 1), by omega, i + 1, rfl, by rw [← ht]; rfl, by omega, rfl⟩
  · obtain rfl : i = l.length := by omega
    rw [List.take_length]
    (try conv=>whnf)<;>repeat'((first|exact sNo|refine sT ?_|refine sF ?_|((first|refine sD ?_ ?_|refine sE ?_ ?_|refine sN ?_ ?_|refine sG ?_ ?_)<;>intro ht<;>(first|(cases ht;done)|skip))|refine wr ?_|refine ix ?_|refine ati ?_|refine row ?_|refine app ?_|refine dr ?_|refine VBs.own ?_|fail)<;>(try conv=>whnf))
    all_goals exact VRt.mk rfl ⟨rfl, rfl⟩
/-- a nil cell that reads as an empty list -/
theorem AFn.flat1 {P : Program} {f : FuncId} {args : List AV} {h : List AP} {id T : Nat} {r0 : AV} (ha : AFn P f args h (fun r h' => r = r0 ∧ h' = [.blk id [.nils] T])) : AFn P f args h (fun r h' => r = r0 ∧ h' = [.blk id [.lst 0 []] T]) := by
  intro E vs L hnx hvs hh
  obtain ⟨h1, h2⟩ := ha E vs L hnx hvs hh
  refine ⟨h1, fun w hs => (h2 w hs).mono ?_⟩
  rintro x w' ⟨v, H', O, hx, hse, E', r, h', rfl, hE, hv, hh', hn, rfl, rfl⟩
  refine ⟨v, E'.H, O, hx, hse, E', r, [.blk id [.lst 0 []] T], rfl, hE, hv, ?_, hn, rfl, rfl⟩
  simp only [VH, VP, VL, V] at hh' ⊢
  obtain ⟨q, L', rfl, ⟨h3, us, rfl, u, us', rfl, rfl, rfl⟩, rfl⟩ := hh'
  exact ⟨_, _, rfl, ⟨h3, _, rfl, _, _, rfl, ⟨none, 0, 0, rfl, rfl, Nat.le_refl _, Nat.zero_le _, by simp only [VR]⟩, rfl⟩, rfl⟩
theorem gclear_o (l : List Bun) : AFn Tryz.prog 19 [.op 0 0] [gB 0 l] (fun r h' => r = .tup [] ∧ h' = [gB 0 []]) := by
  refine AFn.flat1 ?_
  refine afn_in ty_ok Tryz.call19 Tryz.func19 rfl rfl (by decide +kernel) ?_
  unfold gB
  generalize gm l = m at *
  (try conv=>whnf)<;>repeat'((first|exact sNo|refine sT ?_|refine sF ?_|((first|refine sD ?_ ?_|refine sE ?_ ?_|refine sN ?_ ?_|refine sG ?_ ?_)<;>intro ht<;>(first|(cases ht;done)|skip))|refine wr ?_|refine ix ?_|refine ati ?_|refine row ?_|refine app ?_|refine dr ?_|refine VBs.own ?_|fail)<;>(try conv=>whnf))
  all_goals exact VRt.mk rfl ⟨rfl, rfl⟩
end Go.Proofs.YtlghgdgpbnlpmaaGreat
