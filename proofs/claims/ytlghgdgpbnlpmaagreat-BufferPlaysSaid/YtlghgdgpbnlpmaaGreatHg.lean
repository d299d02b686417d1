/- What is proved: what the helpers of chapter 24's laws answer. Conditions: none. -/
import Derived.Test.YtlghgdgpbnlpmaaGreatMHb
namespace Go.Proofs.YtlghgdgpbnlpmaaGreat
open Go.RowKit
set_option linter.unusedVariables false
set_option linter.unusedSimpArgs false
set_option maxRecDepth 100000
set_option maxHeartbeats 100000000
theorem vec_same (f : Int → Int) : (!(f 0 == f 0 && (f 1 == f 1 && (f 2 == f 2 && (f 3 == f 3 && true))))) = false := by simp
theorem rmay_p {v : Int → Int} {t : Bool} (h : mayV v = t) : AFnP Tryz.prog 27 [vecE v] (.bool t) := by subst h; exact rmay_a v
theorem first24_a : AFnP Tryz.prog 52 [] (.agg (bunE firstB)) := by
  refine afp ty_ok Tryz.call52 Tryz.func52 ?_
  (try conv=>whnf)<;>repeat'((first|exact sNo|refine sT ?_|refine sF ?_|((first|refine sD ?_ ?_|refine sE ?_ ?_|refine sN ?_ ?_|refine sG ?_ ?_)<;>intro ht<;>(first|(cases ht;done)|skip))|refine wr ?_|refine ix ?_|refine ati ?_|refine row ?_|refine app ?_|refine dr ?_|refine VBs.own ?_|fail)<;>(try conv=>whnf))
  all_goals rfl
def firstM : Buf := ⟨1, 2, [(1, firstB)], 1, fun _ _ => 0⟩
theorem firstM_add : addBuf (newBuf 1 2) firstB = (firstM, 1, 0) := by
  unfold addBuf
  rw [if_pos firstB_right]
  rfl
def v01 : Int → Int := fun d => if d = 1 then 1 else 0
theorem v01_E : vecE v01 = .agg [i64 0, i64 1, i64 0, i64 0] := by simp [vecE, v01]
theorem firstM_for : forS firstM 0 = (behV (fun _ => 0) firstB, [firstB]) := by
  have h2 : readyB firstB (fun _ => 0) = true := by unfold readyB; rw [firstB_right]; rfl
  have e : forS firstM 0 = stepS (fun _ => 0, []) firstB := rfl
  rw [e, stepS_yes h2]
  rfl
theorem firstM_all : atMost v01 (behV (fun _ => 0) firstB) = true := by decide
attribute [local irreducible] AFnP AFn AFnR in
theorem awake24_a : AFnP Tryz.prog 34 [] (.bool true) := by
  have r0 := first24_a
  have r1 := bnew_t (s := 1) (c := 2) rfl
  have r2 := badd_o (newBuf 1 2) firstB BI.new firstB_Sm (by decide)
  rw [firstM_add] at r2
  have hB : BI firstM := by have := (BI.new (s := 1) (c := 2)).add firstB_Sm (by decide); rw [firstM_add] at this; exact this
  have r3 := bfor_o firstM 0 v01 1 hB (by decide) (by decide)
  rw [firstM_for, firstM_all, v01_E] at r3
  have e1 : [firstB].take (1 : Int).toNat = [firstB] := rfl
  rw [e1] at r3
  have r4 := rsame_B firstB firstB_Sm
  dsimp only at r2 r3
  have hl : [firstB].length = 1 := rfl
  rw [hl] at r3
  clear hB e1 hl
  dsimp only [bufP, bufE, newBuf, firstM, lstE] at r1 r2 r3
  have e2 : [firstB].map bunE = [bunE firstB] := rfl
  rw [e2] at r3
  generalize ([(1, firstB)] : List (Int × Bun)).map prB = R at *
  generalize firstB = b at *
  refine afp ty_ok Tryz.call34 Tryz.func34 ?_
  (try conv=>whnf)<;>repeat'((first|(refine pr ?_;(try conv=>whnf);(fail_if_success (show False)))|exact sNo|refine sT ?_|refine sF ?_|((first|refine sD ?_ ?_|refine sE ?_ ?_|refine sN ?_ ?_|refine sG ?_ ?_)<;>intro ht<;>(first|(cases ht;done)|skip))|refine wr ?_|refine ix ?_|refine ati ?_|refine row ?_|refine app ?_|refine dr ?_|refine VBs.own ?_|refine cp r0 ?_|refine cf r0 ?_|refine cg r0 ?_|refine cz r0 ?_|(refine co r1 ?_;rintro r h' ⟨rfl,rfl⟩)|(refine co r2 ?_;rintro r h' ⟨rfl,rfl⟩)|(refine co r3 ?_;rintro r h' ⟨rfl,rfl⟩)|refine cp r4 ?_|refine cf r4 ?_|refine cg r4 ?_|refine cz r4 ?_|fail)<;>(try conv=>whnf))
  all_goals rfl
theorem alike24_a (l : List Bun) (hl : l.length ≤ 1000000) (hS : ∀ b ∈ l, SmB b) : AFnP Tryz.prog 50 [lstE bunE l, lstE bunE l] (.bool true) := by
  refine afp ty_ok Tryz.call50 Tryz.func50 ?_
  (try conv=>whnf)<;>repeat'((first|exact sNo|refine sT ?_|refine sF ?_|((first|refine sD ?_ ?_|refine sE ?_ ?_|refine sN ?_ ?_|refine sG ?_ ?_)<;>intro ht<;>(first|(cases ht;done)|skip))|refine wr ?_|refine ix ?_|refine ati ?_|refine row ?_|refine app ?_|refine dr ?_|refine VBs.own ?_|fail)<;>(try conv=>whnf))
  refine VLp.mk ⟨[], [], [13], fun k vs h => ∃ i : Nat, vs = [i64 i] ∧ h = [] ∧ i ≤ l.length ∧ k = l.length - i, l.length, ?_⟩
  conv => whnf
  refine ⟨⟨0, rfl, rfl, by omega, by omega⟩, ?_⟩
  rintro k vs h ⟨i, rfl, rfl, hi, rfl⟩
  by_cases hin : i < l.length
  · have r1 := rsame_B l[i] (hS _ (List.getElem_mem hin))
    (try conv=>whnf)<;>repeat'((first|exact sNo|refine sT ?_|refine sF ?_|((first|refine sD ?_ ?_|refine sE ?_ ?_|refine sN ?_ ?_|refine sG ?_ ?_)<;>intro ht<;>(first|(cases ht;done)|skip))|refine wr ?_|refine ix ?_|refine ati ?_|refine row ?_|refine app ?_|refine dr ?_|refine VBs.own ?_|refine cf r1 ?_|refine cg r1 ?_|refine cz r1 ?_|fail)<;>(try conv=>whnf))
    all_goals exact VRd.mk rfl ⟨l.length - (i + 1), by omega, i + 1, rfl, rfl, by omega, rfl⟩
  · (try conv=>whnf)<;>repeat'((first|exact sNo|refine sT ?_|refine sF ?_|((first|refine sD ?_ ?_|refine sE ?_ ?_|refine sN ?_ ?_|refine sG ?_ ?_)<;>intro ht<;>(first|(cases ht;done)|skip))|refine wr ?_|refine ix ?_|refine ati ?_|refine row ?_|refine app ?_|refine dr ?_|refine VBs.own ?_|fail)<;>(try conv=>whnf))
    all_goals rfl
theorem rsmalls24_a (l : List Bun) (n : Nat) (hn : n ≤ 100) (hb : ∀ b ∈ l, bndT b.t) : AFnP Tryz.prog 35 [lstE bunE l, i64 (n : Int)] (.bool (decide (l.length ≤ n) && l.all fun b => smallB b 30)) := by
  refine afp ty_ok Tryz.call35 Tryz.func35 ?_
  by_cases h : l.length ≤ n
  · rw [decide_eq_true h]
    (try conv=>whnf)<;>repeat'((first|exact sNo|refine sT ?_|refine sF ?_|((first|refine sD ?_ ?_|refine sE ?_ ?_|refine sN ?_ ?_|refine sG ?_ ?_)<;>intro ht<;>(first|(cases ht;done)|skip))|refine wr ?_|refine ix ?_|refine ati ?_|refine row ?_|refine app ?_|refine dr ?_|refine VBs.own ?_|fail)<;>(try conv=>whnf))
    refine VLp.mk ⟨[], [], [12], fun k vs h => ∃ i : Nat, vs = [i64 i] ∧ h = [] ∧ i ≤ l.length ∧ k = l.length - i ∧ ∀ j (hj : j < i) (hjl : j < l.length), smallB l[j] 30 = true, l.length, ?_⟩
    conv => whnf
    refine ⟨⟨0, rfl, rfl, by omega, by omega, fun j hj => by omega⟩, ?_⟩
    rintro k vs h ⟨i, rfl, rfl, hi, rfl, hg⟩
    by_cases hin : i < l.length
    · cases hs : smallB l[i] 30
      · have s1 := rsmall_B l[i] 30 (by decide) (hb _ (List.getElem_mem hin)) hs
        have e : (l.all fun b => smallB b 30) = false := List.all_eq_false.2 ⟨l[i], List.getElem_mem hin, by rw [hs]; decide⟩
        rw [e]
        (try conv=>whnf)<;>repeat'((first|exact sNo|refine sT ?_|refine sF ?_|((first|refine sD ?_ ?_|refine sE ?_ ?_|refine sN ?_ ?_|refine sG ?_ ?_)<;>intro ht<;>(first|(cases ht;done)|skip))|refine wr ?_|refine ix ?_|refine ati ?_|refine row ?_|refine app ?_|refine dr ?_|refine VBs.own ?_|refine cf s1 ?_|refine cg s1 ?_|refine cz s1 ?_|fail)<;>(try conv=>whnf))
        all_goals rfl
      · have s1 := rsmall_B l[i] 30 (by decide) (hb _ (List.getElem_mem hin)) hs
        (try conv=>whnf)<;>repeat'((first|exact sNo|refine sT ?_|refine sF ?_|((first|refine sD ?_ ?_|refine sE ?_ ?_|refine sN ?_ ?_|refine sG ?_ ?_)<;>intro ht<;>(first|(cases ht;done)|skip))|refine wr ?_|refine ix ?_|refine ati ?_|refine row ?_|refine app ?_|refine dr ?_|refine VBs.own ?_|refine cf s1 ?_|refine cg s1 ?_|refine cz s1 ?_|fail)<;>(try conv=>whnf))
        all_goals exact VRd.mk rfl ⟨l.length - (i + 1), by omega, i + 1, rfl, rfl, by omega, rfl, fun j hj hjl => by rcases Nat.lt_succ_iff_lt_or_eq.1 hj with h | rfl; exact hg j h hjl; exact hs⟩
    · have e : (l.all fun b => smallB b 30) = true := List.all_eq_true.2 fun x hx => by
        obtain ⟨j, hj, rfl⟩ := List.getElem_of_mem hx
        exact hg j (by omega) hj
      rw [e]
      (try conv=>whnf)<;>repeat'((first|exact sNo|refine sT ?_|refine sF ?_|((first|refine sD ?_ ?_|refine sE ?_ ?_|refine sN ?_ ?_|refine sG ?_ ?_)<;>intro ht<;>(first|(cases ht;done)|skip))|refine wr ?_|refine ix ?_|refine ati ?_|refine row ?_|refine app ?_|refine dr ?_|refine VBs.own ?_|fail)<;>(try conv=>whnf))
      all_goals rfl
  · rw [decide_eq_false h]
    (try conv=>whnf)<;>repeat'((first|exact sNo|refine sT ?_|refine sF ?_|((first|refine sD ?_ ?_|refine sE ?_ ?_|refine sN ?_ ?_|refine sG ?_ ?_)<;>intro ht<;>(first|(cases ht;done)|skip))|refine wr ?_|refine ix ?_|refine ati ?_|refine row ?_|refine app ?_|refine dr ?_|refine VBs.own ?_|fail)<;>(try conv=>whnf))
    all_goals rfl
theorem rsmalls24_p {l : List Bun} {n : Nat} (hn : n ≤ 100) (hb : ∀ b ∈ l, bndT b.t) {t : Bool} (h : (decide (l.length ≤ n) && l.all fun b => smallB b 30) = t) : AFnP Tryz.prog 35 [lstE bunE l, i64 (n : Int)] (.bool t) := by subst h; exact rsmalls24_a l n hn hb
end Go.Proofs.YtlghgdgpbnlpmaaGreat
