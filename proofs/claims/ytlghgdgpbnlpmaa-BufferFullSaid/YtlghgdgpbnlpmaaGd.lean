/- What is proved: what the functions of chapter 22's reference answer. Conditions: none. -/
import Derived.Test.YtlghgdgpbnlpmaaGc
namespace Go.Proofs.Ytlghgdgpbnlpmaa
open Go.RowKit
set_option linter.unusedVariables false
set_option linter.unusedSimpArgs false
set_option maxRecDepth 100000
set_option maxHeartbeats 16000000
theorem rsame_B (b : Bun) (hb : SmB b) : AFnP Try.prog 9 [.agg (bunE b), .agg (bunE b)] (.bool true) := by
  refine afp ty_ok Try.call9 Try.func9 ?_
  have hc := hb.cnt
  have hl := hb.len
  have r1 := rcausS_a b.t b.c hb.deep (by omega) (by omega)
  (try conv=>whnf)<;>repeat'((first|exact sNo|refine sT ?_|refine sF ?_|((first|refine sD ?_ ?_|refine sE ?_ ?_|refine sN ?_ ?_|refine sG ?_ ?_)<;>intro ht<;>(first|(cases ht;done)|skip))|refine wr ?_|refine ix ?_|refine ati ?_|refine row ?_|refine app ?_|refine dr ?_|refine VAnd.mk ?_ ?_|exact VJe.mk rfl ⟨rfl,rfl⟩|refine .inl (slM ?_)|refine .inl (slO ?_)|refine slM ?_|refine slO ?_|refine slN ?_|refine slS ?_|refine swB (swM fun C hC=>?_)|refine sj ?_|refine .inl (sv ?_)|refine sv ?_|refine cl ?_|refine s3 ?_|refine az ?_|refine rm ?_|refine VBs.own ?_|refine cf r1 ?_|refine cg r1 ?_|refine cz r1 ?_|fail)<;>(try conv=>whnf))
  all_goals first | rfl | simp_all
end Go.Proofs.Ytlghgdgpbnlpmaa
