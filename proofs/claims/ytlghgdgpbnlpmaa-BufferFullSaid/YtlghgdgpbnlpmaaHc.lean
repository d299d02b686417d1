/- What is proved: adding to a buffer, its numbers. Conditions: none. -/
import Derived.Test.YtlghgdgpbnlpmaaHb
namespace Go.Proofs.Ytlghgdgpbnlpmaa
open Go.RowKit
set_option linter.unusedVariables false
set_option linter.unusedSimpArgs false
set_option maxRecDepth 100000
set_option maxHeartbeats 100000000
attribute [local irreducible] AFnP AFn AFnR
theorem drop_one {α : Type} {l : List α} (h : 0 < l.length) : ∃ x t, l = x :: t := by
  cases l with
  | nil => exact absurd h (by simp)
  | cons x t => exact ⟨x, t, rfl⟩
theorem badd_o (b : Buf) (x : Bun) (hB : BI b) (hx : SmB x) (hl : b.last < 1000000) : AFn Try.prog 12 [.op 0 0, .agg (bunE x)] [bufP 0 b] (fun r h' => r = .tup [i64 (addBuf b x).2.1, i64 (addBuf b x).2.2] ∧ h' = [bufP 0 (addBuf b x).1]) := by
  refine afn_in ty_ok Try.call12 Try.func12 rfl rfl (by decide +kernel) ?_
  unfold bufP bufE addBuf
  have hlast := hB.last
  have hlen := hB.len
  cases hR : rightB x
  · have r1 := bright_p hx hR
    rw [if_neg (by decide)]
    dsimp only
    unfold lstE at *
    generalize b.m.map prB = R at *
    generalize b.m.length = nn at *
    (try conv=>whnf)<;>repeat'((first|exact sNo|refine sT ?_|refine sF ?_|((first|refine sD ?_ ?_|refine sE ?_ ?_|refine sN ?_ ?_|refine sG ?_ ?_)<;>intro ht<;>(first|(cases ht;done)|skip))|refine wr ?_|refine ix ?_|refine ati ?_|refine row ?_|refine app ?_|refine dr ?_|refine VAnd.mk ?_ ?_|exact VJe.mk rfl ⟨rfl,rfl⟩|refine .inl (slM ?_)|refine .inl (slO ?_)|refine slM ?_|refine slO ?_|refine slN ?_|refine slS ?_|refine swB (swM fun C hC=>?_)|refine sj ?_|refine .inl (sv ?_)|refine sv ?_|refine cl ?_|refine s3 ?_|refine az ?_|refine rm ?_|refine VBs.own ?_|refine cf r1 ?_|refine cg r1 ?_|refine cz r1 ?_|fail)<;>(try conv=>whnf))
    all_goals exact VRt.mk rfl ⟨rfl, rfl⟩
  · have r1 := bright_p hx hR
    rw [if_pos rfl]
    have r2 := bclone_t x hx hR
    have r3 := putB_a b.m (by omega) hB.srt (b.last + 1) x
    have hp : ∀ p ∈ b.m, p.1 < b.last + 1 := fun p hp => by have := hB.le p hp; omega
    rw [put_end hp] at r3
    have hs := hB.app x
    have r4 := lenB_a (b.m ++ [(b.last + 1, x)])
    rw [List.length_append, List.length_singleton] at r4
    have hl2 : (b.m ++ [(b.last + 1, x)]).length = b.m.length + 1 := by simp
    dsimp only
    unfold addM
    by_cases h64 : 64 ≤ b.m.length
    · rw [if_pos h64]
      have r5 := allB_a (b.m ++ [(b.last + 1, x)]) (by omega)
      obtain ⟨p, t, hpt⟩ := drop_one (l := b.m ++ [(b.last + 1, x)]) (by omega)
      have r6 := delB_a (b.m ++ [(b.last + 1, x)]) (by omega) hs p.1
      have e : delM ltI p.1 (b.m ++ [(b.last + 1, x)]) = (b.m ++ [(b.last + 1, x)]).drop 1 := by rw [hpt]; exact del_head
      have hrow : ((b.m ++ [(b.last + 1, x)]).map prB)[0]? = some (i64 p.1 :: bunE p.2) := by rw [hpt]; rfl
      rw [e] at r6
      clear e hpt
      have hn := hl2
      generalize hM : b.m ++ [(b.last + 1, x)] = M at *
      generalize M.drop 1 = M1 at *
      unfold lstE at *
      generalize b.m.length = nn at *
      generalize b.m.map prB = c at *
      clear hM hs hn
      generalize M.map prB = Q at *
      (try conv=>whnf)<;>repeat'((first|(refine drx [1009,1010,1011,1013,2000] [] [] ?_;(try conv=>whnf);(fail_if_success (show False)))|exact sNo|refine sT ?_|refine sF ?_|((first|refine sD ?_ ?_|refine sE ?_ ?_|refine sN ?_ ?_|refine sG ?_ ?_)<;>intro ht<;>(first|(cases ht;done)|skip))|refine wr ?_|refine ix ?_|refine ati ?_|refine row ?_|refine app ?_|refine dr ?_|refine VAnd.mk ?_ ?_|exact VJe.mk rfl ⟨rfl,rfl⟩|refine .inl (slM ?_)|refine .inl (slO ?_)|refine slM ?_|refine slO ?_|refine slN ?_|refine slS ?_|refine swB (swM fun C hC=>?_)|refine sj ?_|refine .inl (sv ?_)|refine sv ?_|refine cl ?_|refine s3 ?_|refine az ?_|refine rm ?_|refine VBs.own ?_|refine cp r1 ?_|refine cf r1 ?_|refine cg r1 ?_|refine cz r1 ?_|refine cp r2 ?_|refine cf r2 ?_|refine cg r2 ?_|refine cz r2 ?_|refine cp r3 ?_|refine cf r3 ?_|refine cg r3 ?_|refine cz r3 ?_|refine cp r4 ?_|refine cf r4 ?_|refine cg r4 ?_|refine cz r4 ?_|refine cp r5 ?_|refine cf r5 ?_|refine cg r5 ?_|refine cz r5 ?_|refine cp r6 ?_|refine cf r6 ?_|refine cg r6 ?_|refine cz r6 ?_|fail)<;>(try conv=>whnf))
      all_goals exact VRt.mk rfl ⟨rfl, rfl⟩
    · rw [if_neg h64]
      generalize b.m ++ [(b.last + 1, x)] = M at *
      have hnn := hlen
      unfold lstE at *
      generalize b.m.length = nn at *
      generalize b.m.map prB = R at *
      (try conv=>whnf)<;>repeat'((first|(refine drx [1010,1011,2000] [] [] ?_;(try conv=>whnf);(fail_if_success (show False)))|exact sNo|refine sT ?_|refine sF ?_|((first|refine sD ?_ ?_|refine sE ?_ ?_|refine sN ?_ ?_|refine sG ?_ ?_)<;>intro ht<;>(first|(cases ht;done)|skip))|refine wr ?_|refine ix ?_|refine ati ?_|refine row ?_|refine app ?_|refine dr ?_|refine VAnd.mk ?_ ?_|exact VJe.mk rfl ⟨rfl,rfl⟩|refine .inl (slM ?_)|refine .inl (slO ?_)|refine slM ?_|refine slO ?_|refine slN ?_|refine slS ?_|refine swB (swM fun C hC=>?_)|refine sj ?_|refine .inl (sv ?_)|refine sv ?_|refine cl ?_|refine s3 ?_|refine az ?_|refine rm ?_|refine VBs.own ?_|refine cp r1 ?_|refine cf r1 ?_|refine cg r1 ?_|refine cz r1 ?_|refine cp r2 ?_|refine cf r2 ?_|refine cg r2 ?_|refine cz r2 ?_|refine cp r3 ?_|refine cf r3 ?_|refine cg r3 ?_|refine cz r3 ?_|refine cp r4 ?_|refine cf r4 ?_|refine cg r4 ?_|refine cz r4 ?_|fail)<;>(try conv=>whnf))
      all_goals exact VRt.mk rfl ⟨rfl, rfl⟩
def sqE (p : Int × Bun) : List AV := [i64 p.1]
theorem m_row {m : List (Int × Bun)} {i : Nat} (h : i < m.length) : (m.map prB)[i]? = some (i64 m[i].1 :: bunE m[i].2) := by rw [List.getElem?_map, List.getElem?_eq_getElem h]; rfl
theorem bseqs_a (b : Buf) (hB : BI b) : AFnP Try.prog 13 [.fp (bufE b) 0] (lstE sqE b.m) := by
  refine afnp_in ty_ok Try.call13 Try.func13 rfl rfl (by decide +kernel) ?_
  have hlen := hB.len
  have r1 := allB_a b.m (by omega)
  have hrow := fun i (h : i < b.m.length) => m_row (m := b.m) h
  unfold bufE
  generalize b.m = m at *
  unfold lstE at r1 ⊢
  generalize hR : m.map prB = R at *
  obtain ⟨n, hn⟩ : ∃ n, m.length = n := ⟨_, rfl⟩
  rw [hn] at r1 hlen ⊢
  (try conv=>whnf)<;>repeat'((first|exact sNo|refine sT ?_|refine sF ?_|((first|refine sD ?_ ?_|refine sE ?_ ?_|refine sN ?_ ?_|refine sG ?_ ?_)<;>intro ht<;>(first|(cases ht;done)|skip))|refine wr ?_|refine ix ?_|refine ati ?_|refine row ?_|refine app ?_|refine dr ?_|refine VAnd.mk ?_ ?_|exact VJe.mk rfl ⟨rfl,rfl⟩|refine .inl (slM ?_)|refine .inl (slO ?_)|refine slM ?_|refine slO ?_|refine slN ?_|refine slS ?_|refine swB (swM fun C hC=>?_)|refine sj ?_|refine .inl (sv ?_)|refine sv ?_|refine cl ?_|refine s3 ?_|refine az ?_|refine rm ?_|refine VBs.own ?_|refine cf r1 ?_|refine cg r1 ?_|refine cz r1 ?_|fail)<;>(try conv=>whnf))
  refine VLp.mk ⟨[.slot 3 2 1], [], [3, 14], fun k vs h => ∃ i : Nat, vs = [.own 0 i, i64 i] ∧ h = [.row 0 2 1 ((m.take i).map sqE)] ∧ i ≤ n ∧ k = n - i, n, ?_⟩
  conv => whnf
  refine ⟨⟨0, rfl, rfl, by omega, by omega⟩, ?_⟩
  rintro k vs h ⟨i, rfl, rfl, hi, rfl⟩
  by_cases hin : i < n
  · have hr := hrow i (by omega)
    have ht : (m.take i).map sqE ++ [sqE (m[i]'(by omega))] = (m.take (i + 1)).map sqE := by rw [← take_snoc (by omega), List.map_append]; rfl
    (try conv=>whnf)<;>repeat'((first|exact sNo|refine sT ?_|refine sF ?_|((first|refine sD ?_ ?_|refine sE ?_ ?_|refine sN ?_ ?_|refine sG ?_ ?_)<;>intro ht<;>(first|(cases ht;done)|skip))|refine wr ?_|refine ix ?_|refine ati ?_|refine row ?_|refine app ?_|refine dr ?_|refine VAnd.mk ?_ ?_|exact VJe.mk rfl ⟨rfl,rfl⟩|refine .inl (slM ?_)|refine .inl (slO ?_)|refine slM ?_|refine slO ?_|refine slN ?_|refine slS ?_|refine swB (swM fun C hC=>?_)|refine sj ?_|refine .inl (sv ?_)|refine sv ?_|refine cl ?_|refine s3 ?_|refine az ?_|refine rm ?_|refine VBs.own ?_|fail)<;>(try conv=>whnf))
    all_goals exact VRd.mk rfl ⟨n - (i + 1), by omega, i + 1, rfl, by rw [← ht]; rfl, by omega, rfl⟩
  · obtain rfl : i = n := by omega
    rw [← hn, List.take_length]
    (try conv=>whnf)<;>repeat'((first|exact sNo|refine sT ?_|refine sF ?_|((first|refine sD ?_ ?_|refine sE ?_ ?_|refine sN ?_ ?_|refine sG ?_ ?_)<;>intro ht<;>(first|(cases ht;done)|skip))|refine wr ?_|refine ix ?_|refine ati ?_|refine row ?_|refine app ?_|refine dr ?_|refine VAnd.mk ?_ ?_|exact VJe.mk rfl ⟨rfl,rfl⟩|refine .inl (slM ?_)|refine .inl (slO ?_)|refine slM ?_|refine slO ?_|refine slN ?_|refine slS ?_|refine swB (swM fun C hC=>?_)|refine sj ?_|refine .inl (sv ?_)|refine sv ?_|refine cl ?_|refine s3 ?_|refine az ?_|refine rm ?_|refine VBs.own ?_|fail)<;>(try conv=>whnf))
    all_goals rfl
end Go.Proofs.Ytlghgdgpbnlpmaa
