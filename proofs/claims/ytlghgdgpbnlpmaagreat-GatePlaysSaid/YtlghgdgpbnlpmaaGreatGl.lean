/- What is proved: chapter 23's law function GatePlays answers true. Conditions: none. -/
import Derived.Test.YtlghgdgpbnlpmaaGreatGk
import Derived.Test.YtlghgdgpbnlpmaaGreatGj
namespace Go.Proofs.YtlghgdgpbnlpmaaGreat
open Go.RowKit
set_option linter.unusedVariables false
set_option linter.unusedSimpArgs false
set_option maxRecDepth 100000
set_option maxHeartbeats 100000000
theorem GI.small {g : List Bun} (h : GI g) : ∀ b ∈ g, SmB b := fun b hb => (h.ok b hb).2
theorem lawPlays_a (l : List Act23) (hb : ∀ a ∈ l, bndT a.2.1.t) : AFnP Tryz.prog 3 [lstE actE l] (.bool true) := by
  refine afp ty_ok Tryz.call3 Tryz.func3 ?_
  have r0 := awake_a
  by_cases h80 : l.length > 80
  · (try conv=>whnf)<;>repeat'((first|exact sNo|refine sT ?_|refine sF ?_|((first|refine sD ?_ ?_|refine sE ?_ ?_|refine sN ?_ ?_|refine sG ?_ ?_)<;>intro ht<;>(first|(cases ht;done)|skip))|refine wr ?_|refine ix ?_|refine ati ?_|refine row ?_|refine app ?_|refine dr ?_|refine VAnd.mk ?_ ?_|exact VJe.mk rfl ⟨rfl,rfl⟩|refine .inl (slM ?_)|refine .inl (slO ?_)|refine slM ?_|refine slO ?_|refine slN ?_|refine slS ?_|refine swB (swM fun C hC=>?_)|refine sj ?_|refine .inl (sv ?_)|refine sv ?_|refine cl ?_|refine s3 ?_|refine az ?_|refine cf r0 ?_|refine cg r0 ?_|refine cz r0 ?_|fail)<;>(try conv=>whnf))
    all_goals rfl
  · (try conv=>whnf)<;>repeat'((first|exact sNo|refine sT ?_|refine sF ?_|((first|refine sD ?_ ?_|refine sE ?_ ?_|refine sN ?_ ?_|refine sG ?_ ?_)<;>intro ht<;>(first|(cases ht;done)|skip))|refine wr ?_|refine ix ?_|refine ati ?_|refine row ?_|refine app ?_|refine dr ?_|refine VAnd.mk ?_ ?_|exact VJe.mk rfl ⟨rfl,rfl⟩|refine .inl (slM ?_)|refine .inl (slO ?_)|refine slM ?_|refine slO ?_|refine slN ?_|refine slS ?_|refine swB (swM fun C hC=>?_)|refine sj ?_|refine .inl (sv ?_)|refine sv ?_|refine cl ?_|refine s3 ?_|refine az ?_|refine cf r0 ?_|refine cg r0 ?_|refine cz r0 ?_|fail)<;>(try conv=>whnf))
    refine VLp.mk ⟨[.flat 0 0], [3, 4], [27], fun k vs h => ∃ (i : Nat) (g : List Bun) (c : AV), vs = [i64 i] ∧ h = [gB 0 g, .blk 1 [c] 31] ∧ i ≤ l.length ∧ k = l.length - i ∧ GI g ∧ g.length ≤ 64 ∧ (c = lstE bunE g ∨ (c = .nils ∧ g = [])), l.length, ?_⟩
    conv => whnf
    refine ⟨⟨0, [], .nils, rfl, rfl, by omega, by omega, GI.nil, by decide, .inr ⟨rfl, rfl⟩⟩, ?_⟩
    rintro k vs h ⟨i, g, c, rfl, rfl, hi, rfl, hG, hg, hc⟩
    by_cases hin : i < l.length
    · have hba := hb _ (List.getElem_mem hin)
      cases hs : smallB l[i].2.1 30
      · have s1 := rsmall_B l[i].2.1 30 (by decide) hba hs
        rcases hc with rfl | ⟨rfl, rfl⟩
        all_goals
          (try conv=>whnf)<;>repeat'((first|exact sNo|refine sT ?_|refine sF ?_|((first|refine sD ?_ ?_|refine sE ?_ ?_|refine sN ?_ ?_|refine sG ?_ ?_)<;>intro ht<;>(first|(cases ht;done)|skip))|refine wr ?_|refine ix ?_|refine ati ?_|refine row ?_|refine app ?_|refine dr ?_|refine VAnd.mk ?_ ?_|exact VJe.mk rfl ⟨rfl,rfl⟩|refine .inl (slM ?_)|refine .inl (slO ?_)|refine slM ?_|refine slO ?_|refine slN ?_|refine slS ?_|refine swB (swM fun C hC=>?_)|refine sj ?_|refine .inl (sv ?_)|refine sv ?_|refine cl ?_|refine s3 ?_|refine az ?_|refine cf s1 ?_|refine cg s1 ?_|refine cz s1 ?_|fail)<;>(try conv=>whnf))
          all_goals rfl
      · have s1 := rsmall_B l[i].2.1 30 (by decide) hba hs
        have hS := small_SmB (by decide) hs
        by_cases k0 : l[i].1 = 0
        · have q1 := gadd_o g l[i].2.1 hG hg hS
          have q2 := radd_a g l[i].2.1 hG hg hS
          have hG' := hG.add hS
          have hg' := addG_len (b := l[i].2.1) hg
          have q3 := glen_a (addG g l[i].2.1).1
          have q4 := gall_o (addG g l[i].2.1).1 hG' hg'
          have q5 := alike_a (addG g l[i].2.1).1 (by omega) hG'.small
          generalize (addG g l[i].2.1).2.1 = ok at *
          generalize (addG g l[i].2.1).2.2 = e at *
          generalize (addG g l[i].2.1).1 = g' at *
          rcases hc with rfl | ⟨rfl, rfl⟩
          all_goals
            (try conv=>whnf)<;>repeat'((first|(refine sF ?_ (show (!(ok == ok)) = false by cases ok<;>rfl))|(refine drx [6,8,2000] [] [] ?_;(try conv=>whnf);(fail_if_success (show False)))|exact sNo|refine sT ?_|refine sF ?_|((first|refine sD ?_ ?_|refine sE ?_ ?_|refine sN ?_ ?_|refine sG ?_ ?_)<;>intro ht<;>(first|(cases ht;done)|skip))|refine wr ?_|refine ix ?_|refine ati ?_|refine row ?_|refine app ?_|refine dr ?_|refine VAnd.mk ?_ ?_|exact VJe.mk rfl ⟨rfl,rfl⟩|refine .inl (slM ?_)|refine .inl (slO ?_)|refine slM ?_|refine slO ?_|refine slN ?_|refine slS ?_|refine swB (swM fun C hC=>?_)|refine sj ?_|refine .inl (sv ?_)|refine sv ?_|refine cl ?_|refine s3 ?_|refine az ?_|refine cf s1 ?_|refine cg s1 ?_|refine cz s1 ?_|(refine co q1 ?_;rintro r h' ⟨rfl,rfl⟩)|refine cf q2 ?_|refine cg q2 ?_|refine cz q2 ?_|refine cf q3 ?_|refine cg q3 ?_|refine cz q3 ?_|(refine co q4 ?_;rintro r h' ⟨rfl,rfl⟩)|refine cf q5 ?_|refine cg q5 ?_|refine cz q5 ?_|fail)<;>(try conv=>whnf))
            all_goals exact VRd.mk rfl ⟨l.length - (i + 1), by omega, i + 1, g', _, rfl, rfl, by omega, rfl, hG', hg', .inl rfl⟩
        · by_cases k1 : l[i].1 = 1
          · have q1 := gnext_o g l[i].2.2 hG hg
            have q2 := rnext_a g l[i].2.2 hG hg
            have hG' := hG.next l[i].2.2
            have hg' : (nextG g l[i].2.2).1.length ≤ 64 := Nat.le_trans (nextG_len g l[i].2.2) hg
            have q3 := glen_a (nextG g l[i].2.2).1
            have q4 := gall_o (nextG g l[i].2.2).1 hG' hg'
            have q5 := alike_a (nextG g l[i].2.2).1 (by omega) hG'.small
            have q6 := rsame_B (nextG g l[i].2.2).2.1 (nextG_Sm hG _)
            have hf := nextG_false (l := g) (v := l[i].2.2)
            generalize (nextG g l[i].2.2).2.1 = b at *
            generalize (nextG g l[i].2.2).2.2 = ok at *
            generalize (nextG g l[i].2.2).1 = g' at *
            cases ok
            · obtain rfl := hf rfl
              unfold outE at q1
              dsimp only at q1
              rcases hc with rfl | ⟨rfl, rfl⟩
              all_goals
                (try conv=>whnf)<;>repeat'((first|(refine drx [6,8,2000] [] [] ?_;(try conv=>whnf);(fail_if_success (show False)))|exact sNo|refine sT ?_|refine sF ?_|((first|refine sD ?_ ?_|refine sE ?_ ?_|refine sN ?_ ?_|refine sG ?_ ?_)<;>intro ht<;>(first|(cases ht;done)|skip))|refine wr ?_|refine ix ?_|refine ati ?_|refine row ?_|refine app ?_|refine dr ?_|refine VAnd.mk ?_ ?_|exact VJe.mk rfl ⟨rfl,rfl⟩|refine .inl (slM ?_)|refine .inl (slO ?_)|refine slM ?_|refine slO ?_|refine slN ?_|refine slS ?_|refine swB (swM fun C hC=>?_)|refine sj ?_|refine .inl (sv ?_)|refine sv ?_|refine cl ?_|refine s3 ?_|refine az ?_|refine cf s1 ?_|refine cg s1 ?_|refine cz s1 ?_|(refine co q1 ?_;rintro r h' ⟨rfl,rfl⟩)|refine cf q2 ?_|refine cg q2 ?_|refine cz q2 ?_|refine cf q3 ?_|refine cg q3 ?_|refine cz q3 ?_|(refine co q4 ?_;rintro r h' ⟨rfl,rfl⟩)|refine cf q5 ?_|refine cg q5 ?_|refine cz q5 ?_|refine cf q6 ?_|refine cg q6 ?_|refine cz q6 ?_|fail)<;>(try conv=>whnf))
                all_goals exact VRd.mk rfl ⟨l.length - (i + 1), by omega, i + 1, g', _, rfl, rfl, by omega, rfl, hG', hg', .inl rfl⟩
            · unfold outE at q1
              dsimp only at q1
              rcases hc with rfl | ⟨rfl, rfl⟩
              all_goals
                (try conv=>whnf)<;>repeat'((first|(refine drx [6,8,2000] [] [] ?_;(try conv=>whnf);(fail_if_success (show False)))|exact sNo|refine sT ?_|refine sF ?_|((first|refine sD ?_ ?_|refine sE ?_ ?_|refine sN ?_ ?_|refine sG ?_ ?_)<;>intro ht<;>(first|(cases ht;done)|skip))|refine wr ?_|refine ix ?_|refine ati ?_|refine row ?_|refine app ?_|refine dr ?_|refine VAnd.mk ?_ ?_|exact VJe.mk rfl ⟨rfl,rfl⟩|refine .inl (slM ?_)|refine .inl (slO ?_)|refine slM ?_|refine slO ?_|refine slN ?_|refine slS ?_|refine swB (swM fun C hC=>?_)|refine sj ?_|refine .inl (sv ?_)|refine sv ?_|refine cl ?_|refine s3 ?_|refine az ?_|refine cf s1 ?_|refine cg s1 ?_|refine cz s1 ?_|(refine co q1 ?_;rintro r h' ⟨rfl,rfl⟩)|refine cf q2 ?_|refine cg q2 ?_|refine cz q2 ?_|refine cf q3 ?_|refine cg q3 ?_|refine cz q3 ?_|(refine co q4 ?_;rintro r h' ⟨rfl,rfl⟩)|refine cf q5 ?_|refine cg q5 ?_|refine cz q5 ?_|refine cf q6 ?_|refine cg q6 ?_|refine cz q6 ?_|fail)<;>(try conv=>whnf))
                all_goals exact VRd.mk rfl ⟨l.length - (i + 1), by omega, i + 1, g', _, rfl, rfl, by omega, rfl, hG', hg', .inl rfl⟩
          · have q1 := gclear_o g
            have q3 := glen_a []
            have q4 := gall_o [] GI.nil (by decide)
            have q5 := alike_a [] (by decide) (fun b hb => by cases hb)
            rcases hc with rfl | ⟨rfl, rfl⟩
            all_goals
              (try conv=>whnf)<;>repeat'((first|(refine drx [6,8,2000] [] [] ?_;(try conv=>whnf);(fail_if_success (show False)))|exact sNo|refine sT ?_|refine sF ?_|((first|refine sD ?_ ?_|refine sE ?_ ?_|refine sN ?_ ?_|refine sG ?_ ?_)<;>intro ht<;>(first|(cases ht;done)|skip))|refine wr ?_|refine ix ?_|refine ati ?_|refine row ?_|refine app ?_|refine dr ?_|refine VAnd.mk ?_ ?_|exact VJe.mk rfl ⟨rfl,rfl⟩|refine .inl (slM ?_)|refine .inl (slO ?_)|refine slM ?_|refine slO ?_|refine slN ?_|refine slS ?_|refine swB (swM fun C hC=>?_)|refine sj ?_|refine .inl (sv ?_)|refine sv ?_|refine cl ?_|refine s3 ?_|refine az ?_|refine cf s1 ?_|refine cg s1 ?_|refine cz s1 ?_|(refine co q1 ?_;rintro r h' ⟨rfl,rfl⟩)|refine cf q3 ?_|refine cg q3 ?_|refine cz q3 ?_|(refine co q4 ?_;rintro r h' ⟨rfl,rfl⟩)|refine cf q5 ?_|refine cg q5 ?_|refine cz q5 ?_|fail)<;>(try conv=>whnf))
              all_goals exact VRd.mk rfl ⟨l.length - (i + 1), by omega, i + 1, [], _, rfl, rfl, by omega, rfl, GI.nil, by decide, .inr ⟨rfl, rfl⟩⟩
    · rcases hc with rfl | ⟨rfl, rfl⟩
      all_goals
        (try conv=>whnf)<;>repeat'((first|exact sNo|refine sT ?_|refine sF ?_|((first|refine sD ?_ ?_|refine sE ?_ ?_|refine sN ?_ ?_|refine sG ?_ ?_)<;>intro ht<;>(first|(cases ht;done)|skip))|refine wr ?_|refine ix ?_|refine ati ?_|refine row ?_|refine app ?_|refine dr ?_|refine VAnd.mk ?_ ?_|exact VJe.mk rfl ⟨rfl,rfl⟩|refine .inl (slM ?_)|refine .inl (slO ?_)|refine slM ?_|refine slO ?_|refine slN ?_|refine slS ?_|refine swB (swM fun C hC=>?_)|refine sj ?_|refine .inl (sv ?_)|refine sv ?_|refine cl ?_|refine s3 ?_|refine az ?_|fail)<;>(try conv=>whnf))
        all_goals rfl
end Go.Proofs.YtlghgdgpbnlpmaaGreat
