/- What is proved: chapter 24's law function BufferPlays answers true. Conditions: none. -/
import Derived.Test.YtlghgdgpbnlpmaaGreatHh
namespace Go.Proofs.YtlghgdgpbnlpmaaGreat
open Go.RowKit
set_option linter.unusedVariables false
set_option linter.unusedSimpArgs false
set_option maxRecDepth 100000
set_option maxHeartbeats 100000000
structure ActI (b b' : Buf) : Prop where
  bi : BI b'
  cn : b'.cn = b.cn
  last : b'.last ≤ b.last + 1
theorem act_BI {b : Buf} (hB : BI b) {a : Act24} (hS : SmB a.2.1) (hl : b.last < 1000000) : ActI b (actB b a) := by
  unfold actB
  split
  · refine ⟨hB.add hS hl, ?_, ?_⟩ <;> unfold addBuf <;> split <;> first | rfl | exact Int.le_refl _ | (show b.last ≤ b.last + 1; omega)
  · split
    · refine ⟨hB.hear a.2.2.1 a.2.2.2.1, ?_, ?_⟩ <;> unfold hearB <;> split <;> first | rfl | (show b.last ≤ b.last + 1; omega)
    · split
      · exact ⟨hB, rfl, by omega⟩
      · split
        · exact ⟨hB.col, rfl, by show b.last ≤ _; omega⟩
        · exact ⟨hB.clr, rfl, by show b.last ≤ _; omega⟩
attribute [local irreducible] AFnP AFn AFnR in
theorem lawBPlays_a (s c : Int) (l : List Act24) (hb : ∀ a ∈ l, bndT a.2.1.t) : AFnP Tryz.prog 9 [i64 s, i64 c, lstE actE24 l] (.bool true) := by
  refine afp ty_ok Tryz.call9 Tryz.func9 ?_
  have r0 := awake24_a
  by_cases h80 : l.length > 80
  · (try conv=>whnf)<;>repeat'((first|exact sNo|refine sT ?_|refine sF ?_|((first|refine sD ?_ ?_|refine sE ?_ ?_|refine sN ?_ ?_|refine sG ?_ ?_)<;>intro ht<;>(first|(cases ht;done)|skip))|refine wr ?_|refine ix ?_|refine ati ?_|refine row ?_|refine app ?_|refine dr ?_|refine VAnd.mk ?_ ?_|exact VJe.mk rfl ⟨rfl,rfl⟩|refine .inl (slM ?_)|refine .inl (slO ?_)|refine slM ?_|refine slO ?_|refine slN ?_|refine slS ?_|refine swB (swM fun C hC=>?_)|refine sj ?_|refine .inl (sv ?_)|refine sv ?_|refine cl ?_|refine s3 ?_|refine az ?_|refine rm ?_|refine VBs.own ?_|refine cf r0 ?_|refine cg r0 ?_|refine cz r0 ?_|fail)<;>(try conv=>whnf))
    all_goals rfl
  cases hn : newOk s c
  · have r1 := bnew_f hn
    have r2 := rnew_f hn
    (try conv=>whnf)<;>repeat'((first|exact sNo|refine sT ?_|refine sF ?_|((first|refine sD ?_ ?_|refine sE ?_ ?_|refine sN ?_ ?_|refine sG ?_ ?_)<;>intro ht<;>(first|(cases ht;done)|skip))|refine wr ?_|refine ix ?_|refine ati ?_|refine row ?_|refine app ?_|refine dr ?_|refine VAnd.mk ?_ ?_|exact VJe.mk rfl ⟨rfl,rfl⟩|refine .inl (slM ?_)|refine .inl (slO ?_)|refine slM ?_|refine slO ?_|refine slN ?_|refine slS ?_|refine swB (swM fun C hC=>?_)|refine sj ?_|refine .inl (sv ?_)|refine sv ?_|refine cl ?_|refine s3 ?_|refine az ?_|refine rm ?_|refine VBs.own ?_|refine cf r0 ?_|refine cg r0 ?_|refine cz r0 ?_|(refine co r1 ?_;rintro r h' ⟨rfl,rfl⟩)|refine cf r2 ?_|refine cg r2 ?_|refine cz r2 ?_|fail)<;>(try conv=>whnf))
    all_goals rfl
  have r1 := bnew_t hn
  have r2 := rnew_t hn
  have hc := of_decide_eq_true hn
  have r3 := is24_a (newBuf s c) BI.new (by show c ≤ 4; omega)
  have hB0 : BI (newBuf s c) := BI.new
  have hc0 : (newBuf s c).cn = c := rfl
  have hl0 : (newBuf s c).last = 0 := rfl
  generalize newBuf s c = B0 at *
  (try conv=>whnf)<;>repeat'((first|exact sNo|refine sT ?_|refine sF ?_|((first|refine sD ?_ ?_|refine sE ?_ ?_|refine sN ?_ ?_|refine sG ?_ ?_)<;>intro ht<;>(first|(cases ht;done)|skip))|refine wr ?_|refine ix ?_|refine ati ?_|refine row ?_|refine app ?_|refine dr ?_|refine VAnd.mk ?_ ?_|exact VJe.mk rfl ⟨rfl,rfl⟩|refine .inl (slM ?_)|refine .inl (slO ?_)|refine slM ?_|refine slO ?_|refine slN ?_|refine slS ?_|refine swB (swM fun C hC=>?_)|refine sj ?_|refine .inl (sv ?_)|refine sv ?_|refine cl ?_|refine s3 ?_|refine az ?_|refine rm ?_|refine VBs.own ?_|refine cf r0 ?_|refine cg r0 ?_|refine cz r0 ?_|(refine co r1 ?_;rintro r h' ⟨rfl,rfl⟩)|refine cf r2 ?_|refine cg r2 ?_|refine cz r2 ?_|refine cf r3 ?_|refine cg r3 ?_|refine cz r3 ?_|fail)<;>(try conv=>whnf))
  refine VLp.mk ⟨[], [7, 9], [52], fun k vs h => ∃ (i : Nat) (b : Buf), vs = [i64 i] ∧ h = [bufP 0 b, .blk 1 (bufE b) 92] ∧ i ≤ l.length ∧ k = l.length - i ∧ BI b ∧ b.cn = c ∧ b.last ≤ i, l.length, ?_⟩
  conv => whnf
  refine ⟨⟨0, B0, rfl, rfl, by omega, by omega, hB0, hc0, by omega⟩, ?_⟩
  clear hB0 hc0 hl0 r1 r2 r3
  rintro k vs h ⟨i, b, rfl, rfl, hi, rfl, hB, hbc, hbl⟩
  by_cases hin : i < l.length
  · have hba := hb _ (List.getElem_mem hin)
    cases hs : smallB l[i].2.1 30
    · have s1 := rsmall_B l[i].2.1 30 (by decide) hba hs
      (try conv=>whnf)<;>repeat'((first|exact sNo|refine sT ?_|refine sF ?_|((first|refine sD ?_ ?_|refine sE ?_ ?_|refine sN ?_ ?_|refine sG ?_ ?_)<;>intro ht<;>(first|(cases ht;done)|skip))|refine wr ?_|refine ix ?_|refine ati ?_|refine row ?_|refine app ?_|refine dr ?_|refine VAnd.mk ?_ ?_|exact VJe.mk rfl ⟨rfl,rfl⟩|refine .inl (slM ?_)|refine .inl (slO ?_)|refine slM ?_|refine slO ?_|refine slN ?_|refine slS ?_|refine swB (swM fun C hC=>?_)|refine sj ?_|refine .inl (sv ?_)|refine sv ?_|refine cl ?_|refine s3 ?_|refine az ?_|refine rm ?_|refine VBs.own ?_|refine cf s1 ?_|refine cg s1 ?_|refine cz s1 ?_|fail)<;>(try conv=>whnf))
      all_goals rfl
    · have s1 := rsmall_B l[i].2.1 30 (by decide) hba hs
      have hS := small_SmB (by decide) hs
      have hA := act_BI hB (a := l[i]) hS (by omega)
      have q1 := act24_o b l[i] hB (by omega) hS (by omega)
      have q2 := is24_a (actB b l[i]) hA.bi (by rw [hA.cn]; omega)
      generalize actB b l[i] = b' at *
      obtain ⟨g1, g2, g3⟩ := hA
      (try conv=>whnf)<;>repeat'((first|(refine drx [6,2000] [] [] ?_;(try conv=>whnf);(fail_if_success (show False)))|exact sNo|refine sT ?_|refine sF ?_|((first|refine sD ?_ ?_|refine sE ?_ ?_|refine sN ?_ ?_|refine sG ?_ ?_)<;>intro ht<;>(first|(cases ht;done)|skip))|refine wr ?_|refine ix ?_|refine ati ?_|refine row ?_|refine app ?_|refine dr ?_|refine VAnd.mk ?_ ?_|exact VJe.mk rfl ⟨rfl,rfl⟩|refine .inl (slM ?_)|refine .inl (slO ?_)|refine slM ?_|refine slO ?_|refine slN ?_|refine slS ?_|refine swB (swM fun C hC=>?_)|refine sj ?_|refine .inl (sv ?_)|refine sv ?_|refine cl ?_|refine s3 ?_|refine az ?_|refine rm ?_|refine VBs.own ?_|refine cf s1 ?_|refine cg s1 ?_|refine cz s1 ?_|(refine co q1 ?_;rintro r h' ⟨rfl,rfl⟩)|refine cf q2 ?_|refine cg q2 ?_|refine cz q2 ?_|fail)<;>(try conv=>whnf))
      all_goals exact VRd.mk rfl ⟨l.length - (i + 1), by omega, i + 1, b', rfl, rfl, by omega, rfl, g1, by rw [g2]; exact hbc, by omega⟩
  · (try conv=>whnf)<;>repeat'((first|exact sNo|refine sT ?_|refine sF ?_|((first|refine sD ?_ ?_|refine sE ?_ ?_|refine sN ?_ ?_|refine sG ?_ ?_)<;>intro ht<;>(first|(cases ht;done)|skip))|refine wr ?_|refine ix ?_|refine ati ?_|refine row ?_|refine app ?_|refine dr ?_|refine VAnd.mk ?_ ?_|exact VJe.mk rfl ⟨rfl,rfl⟩|refine .inl (slM ?_)|refine .inl (slO ?_)|refine slM ?_|refine slO ?_|refine slN ?_|refine slS ?_|refine swB (swM fun C hC=>?_)|refine sj ?_|refine .inl (sv ?_)|refine sv ?_|refine cl ?_|refine s3 ?_|refine az ?_|refine rm ?_|refine VBs.own ?_|fail)<;>(try conv=>whnf))
    all_goals rfl
end Go.Proofs.YtlghgdgpbnlpmaaGreat
