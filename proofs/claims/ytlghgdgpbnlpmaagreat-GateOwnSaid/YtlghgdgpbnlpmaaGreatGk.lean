/- What is proved: chapter 23's law function GatePlays answers true. Conditions: none. -/
import Derived.Test.YtlghgdgpbnlpmaaGreatGi
import Derived.Test.YtlghgdgpbnlpmaaGreatGka
import Derived.Test.YtlghgdgpbnlpmaaGreatGd
namespace Go.Proofs.YtlghgdgpbnlpmaaGreat
open Go.RowKit
set_option linter.unusedVariables false
set_option linter.unusedSimpArgs false
set_option maxRecDepth 100000
set_option maxHeartbeats 16000000
theorem first_a : AFnP Tryz.prog 26 [] (.agg (bunE firstB)) := by
  refine afp ty_ok Tryz.call26 Tryz.func26 ?_
  (try conv=>whnf)<;>repeat'((first|exact sNo|refine sT ?_|refine sF ?_|((first|refine sD ?_ ?_|refine sE ?_ ?_|refine sN ?_ ?_|refine sG ?_ ?_)<;>intro ht<;>(first|(cases ht;done)|skip))|refine wr ?_|refine ix ?_|refine ati ?_|refine row ?_|refine app ?_|refine dr ?_|refine VBs.own ?_|fail)<;>(try conv=>whnf))
  all_goals rfl
/-- a gate that is new -/
theorem AFn.nil1 {P : Program} {f : FuncId} {args : List AV} {id T : Nat} {R : AV → List AP → Prop} (ha : AFn P f args [.blk id [.lst 0 []] T] R) : AFn P f args [.blk id [.nils] T] R := by
  intro E vs L hnx hvs hh
  refine ha E vs L hnx hvs ?_
  simp only [VH, VP, VL, V] at hh ⊢
  obtain ⟨q, L', rfl, ⟨h3, us, rfl, u, us', rfl, rfl, rfl⟩, rfl⟩ := hh
  exact ⟨_, _, rfl, ⟨h3, _, rfl, _, _, rfl, ⟨none, 0, 0, rfl, rfl, Nat.le_refl _, Nat.zero_le _, by simp only [VR]⟩, rfl⟩, rfl⟩
theorem ins_nil (b : Bun) : insG b [] = [b] := by unfold insG; simp
theorem fnd_nil (b : Bun) : fndG b [] = false := rfl
theorem add_nil {b : Bun} (h : rightB b = true) : addG [] b = ([b], true, 0) := by rw [addG_in h (fnd_nil b) (by decide), ins_nil]
theorem next_first : nextG [firstB] (fun _ => 0) = ([], firstB, true) := by
  have hr := firstB_right
  have h1 : knownB firstB (fun _ => 0) = false := by unfold knownB; rw [hr]; rfl
  have h2 : readyB firstB (fun _ => 0) = true := by unfold readyB; rw [hr]; rfl
  have h3 : restG [firstB] (fun _ => 0) = [firstB] := by simp [restG, h1]
  rw [nextG_some (i := 0) (by rw [h3]; decide) (by simp only [h3]; exact h2) (fun j hj _ => by omega)]
  simp only [h3]
  rfl
theorem awake_a : AFnP Tryz.prog 12 [] (.bool true) := by
  have r0 := first_a
  have r1 := gadd_o [] firstB GI.nil (by decide) firstB_Sm
  rw [add_nil firstB_right] at r1
  have r1 := AFn.nil1 r1
  have hG : GI [firstB] := by have := GI.nil.add firstB_Sm; rw [add_nil firstB_right] at this; exact this
  have r2 := gnext_o [firstB] (fun _ => 0) hG (by decide)
  rw [next_first] at r2
  have r3 := rsame_B firstB firstB_Sm
  have r4 := glen_a []
  dsimp only at r1 r2
  unfold outE at r2
  dsimp only at r2
  clear hG
  generalize firstB = b at *
  refine afp ty_ok Tryz.call12 Tryz.func12 ?_
  (try conv=>whnf)<;>repeat'((first|(refine pr ?_;(try conv=>whnf);(fail_if_success (show False)))|exact sNo|refine sT ?_|refine sF ?_|((first|refine sD ?_ ?_|refine sE ?_ ?_|refine sN ?_ ?_|refine sG ?_ ?_)<;>intro ht<;>(first|(cases ht;done)|skip))|refine wr ?_|refine ix ?_|refine ati ?_|refine row ?_|refine app ?_|refine dr ?_|refine VBs.own ?_|refine cp r0 ?_|refine cf r0 ?_|refine cg r0 ?_|refine cz r0 ?_|(refine co r1 ?_;rintro r h' ⟨rfl,rfl⟩)|(refine co r2 ?_;rintro r h' ⟨rfl,rfl⟩)|refine cp r3 ?_|refine cf r3 ?_|refine cg r3 ?_|refine cz r3 ?_|refine cp r4 ?_|refine cf r4 ?_|refine cg r4 ?_|refine cz r4 ?_|fail)<;>(try conv=>whnf))
  all_goals rfl
theorem alike_a (l : List Bun) (hl : l.length ≤ 1000000) (hS : ∀ b ∈ l, SmB b) : AFnP Tryz.prog 21 [lstE bunE l, lstE bunE l] (.bool true) := by
  refine afp ty_ok Tryz.call21 Tryz.func21 ?_
  (try conv=>whnf)<;>repeat'((first|exact sNo|refine sT ?_|refine sF ?_|((first|refine sD ?_ ?_|refine sE ?_ ?_|refine sN ?_ ?_|refine sG ?_ ?_)<;>intro ht<;>(first|(cases ht;done)|skip))|refine wr ?_|refine ix ?_|refine ati ?_|refine row ?_|refine app ?_|refine dr ?_|refine VBs.own ?_|fail)<;>(try conv=>whnf))
  refine VLp.mk ⟨[], [], [13], fun k vs h => ∃ i : Nat, vs = [i64 i] ∧ h = [] ∧ i ≤ l.length ∧ k = l.length - i, l.length, ?_⟩
  conv => whnf
  refine ⟨⟨0, rfl, rfl, by omega, by omega⟩, ?_⟩
  rintro k vs h ⟨i, rfl, rfl, hi, rfl⟩
  by_cases hin : i < l.length
  · have r1 := rsame_B l[i] (hS _ (List.getElem_mem hin))
    (try conv=>whnf)<;>repeat'((first|exact sNo|refine sT ?_|refine sF ?_|((first|refine sD ?_ ?_|refine sE ?_ ?_|refine sN ?_ ?_|refine sG ?_ ?_)<;>intro ht<;>(first|(cases ht;done)|skip))|refine wr ?_|refine ix ?_|refine ati ?_|refine row ?_|refine app ?_|refine dr ?_|refine VBs.own ?_|refine cf r1 ?_|refine cg r1 ?_|refine cz r1 ?_|fail)<;>(try conv=>whnf))
    all_goals exact VRd.mk rfl ⟨l.length - (i + 1), by omega, i + 1, rfl, rfl, by omega, rfl⟩
  · (try conv=>whnf)<;>repeat'((first|exact sNo|refine sT ?_|refine sF ?_|((first|refine sD ?_ ?_|refine sE ?_ ?_|refine sN ?_ ?_|refine sG ?_ ?_)<;>intro ht<;>(first|(cases ht;done)|skip))|refine wr ?_|refine ix ?_|refine ati ?_|refine row ?_|refine app ?_|refine dr ?_|refine VBs.own ?_|fail)<;>(try conv=>whnf))
    all_goals rfl
abbrev Act23 := Int × Bun × (Int → Int)
def actE (a : Act23) : List AV := [.int .u8 a.1, i64 a.2.1.dc, i64 a.2.1.af, i64 a.2.1.la, i64 (a.2.1.dp 0), i64 (a.2.1.dp 1), i64 (a.2.1.dp 2), i64 (a.2.1.dp 3), lstE entE a.2.1.t.es, lstE kidRow a.2.1.t.ks, lstE spE a.2.1.c, i64 (a.2.2 0), i64 (a.2.2 1), i64 (a.2.2 2), i64 (a.2.2 3)]
theorem nextG_false {l : List Bun} {v : Int → Int} (h : (nextG l v).2.2 = false) : (nextG l v).2.1 = zeroB := by
  unfold nextG at *
  split at h
  · cases h
  · rfl
end Go.Proofs.YtlghgdgpbnlpmaaGreat
