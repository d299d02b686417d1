/- What is proved: chapter 24's law function BufferCollects answers true. Conditions: none. -/
import Derived.Test.YtlghgdgpbnlpmaaGreatHj
namespace Go.Proofs.YtlghgdgpbnlpmaaGreat
open Go.RowKit
set_option linter.unusedVariables false
set_option linter.unusedSimpArgs false
set_option maxRecDepth 100000
set_option maxHeartbeats 100000000
theorem goes_col (b : Buf) (x : Bun) : goesB (colB b) x = goesB b x := by
  have h : ∀ n, allW (colB b) x n = allW b x n := fun n => by
    induction n with
    | zero => rfl
    | succ n ih => show (allW (colB b) x n && _) = (allW b x n && _); rw [ih]; rfl
  exact h _
theorem col_twice (b : Buf) : colN (colB b) = 0 := by
  unfold colN
  have e : stayM (colB b) (colB b).m = (colB b).m := List.filter_eq_self.2 fun p hp => by
    rw [goes_col]
    exact (List.mem_filter.1 hp).2
  rw [e]
  omega
/-- two that say what they have -/
def twoB (l : List Bun) (a c d : Int → Int) : Buf := heardB (heardB (fillB l (heardB (newBuf 0 3) 1 a)) 2 c) 1 d
structure TwoI (l : List Bun) (a c d : Int → Int) (b : Buf) : Prop where
  bi : BI b
  cn : b.cn = 3
  has1 : ofB b 1 = mxV a d
  has2 : ofB b 2 = c
  col : colN b = l.countP fun x => knownB x (mxV a d) && knownB x c
  len : (colB b).m.length = b.m.length - l.countP fun x => knownB x (mxV a d) && knownB x c
theorem two_of {l : List Bun} {a c d : Int → Int} (ha : mxV (fun _ => 0) a = a) (hc : mxV (fun _ => 0) c = c) (h60 : l.length ≤ 60) (hS : ∀ x ∈ l, SmB x) : TwoI l a c d (twoB l a c d) := by
  have hF := fill_of (l := l) a (by omega) hS
  unfold twoB
  generalize fillB l (heardB (newBuf 0 3) 1 a) = b at *
  have e1 : b.has 1 = a := by
    rw [hF.has]
    show (if (1 : Int) = 1 then mxV (fun _ => 0) a else (newBuf 0 3).has 1) = a
    rw [if_pos rfl, ha]
  have e2 : b.has 2 = fun _ => 0 := by rw [hF.has]; rfl
  have hself : b.self = 0 := hF.self
  have hcn : b.cn = 3 := hF.cn
  have g1 : (heardB (heardB b 2 c) 1 d).has 1 = mxV a d := by
    show (if (1 : Int) = 1 then mxV (if (1 : Int) = 2 then mxV (b.has 1) c else b.has 1) d else (heardB b 2 c).has 1) = mxV a d
    rw [if_pos rfl, if_neg (by decide), e1]
  have g2 : (heardB (heardB b 2 c) 1 d).has 2 = c := by
    show (if (2 : Int) = 1 then mxV ((heardB b 2 c).has 2) d else (if (2 : Int) = 2 then mxV (b.has 2) c else b.has 2)) = c
    rw [if_neg (by decide), if_pos rfl, e2, hc]
  have hp1 : peerB (heardB (heardB b 2 c) 1 d) 1 = true := by show decide (0 ≤ (1 : Int) ∧ 1 < b.cn ∧ 1 ≠ b.self) = true; rw [hself, hcn]; rfl
  have hp2 : peerB (heardB (heardB b 2 c) 1 d) 2 = true := by show decide (0 ≤ (2 : Int) ∧ 2 < b.cn ∧ 2 ≠ b.self) = true; rw [hself, hcn]; rfl
  have hg : ∀ x, goesB (heardB (heardB b 2 c) 1 d) x = (knownB x (mxV a d) && knownB x c) := fun x => by
    rw [goes3 (b := heardB (heardB b 2 c) 1 d) hself hcn, g1, g2]
  have hcc := col_count (l := l) (b := heardB (heardB b 2 c) 1 d) hF.m _ hg fun x hx => by
    unfold knownB at hx
    simp only [Bool.and_eq_true] at hx
    exact hx.1.1
  exact ⟨(hF.bi.heard 2 c).heard 1 d, hcn, by funext k; unfold ofB; rw [if_pos hp1, g1], by funext k; unfold ofB; rw [if_pos hp2, g2], hcc.1, hcc.2⟩
theorem countP_take {α : Type} {p : α → Bool} {l : List α} {i : Nat} (h : i < l.length) : (l.take (i + 1)).countP p = (l.take i).countP p + (p l[i]).toNat := by
  rw [← take_snoc h, List.countP_append, List.countP_singleton]
  cases p l[i] <;> rfl
attribute [local irreducible] AFnP AFn AFnR in
theorem lawCollects_a (l : List Bun) (hb : ∀ b ∈ l, bndT b.t) (a0 c0 d : Int → Int) : AFnP Tryz.prog 8 [lstE bunE l, vecE a0, vecE c0, vecE d] (.bool true) := by
  refine afp ty_ok Tryz.call8 Tryz.func8 ?_
  rw [nrm_E a0, nrm_E c0]
  have hz := nrm_mx (v := a0)
  have hz2 := nrm_mx (v := c0)
  generalize nrmV a0 = a at *
  generalize nrmV c0 = c at *
  have r0 := awake24_a
  cases hs : (decide (l.length ≤ 40) && l.all fun b => smallB b 30)
  · have s1 := rsmalls24_p (n := 40) (by decide) hb hs
    (try conv=>whnf)<;>repeat'((first|exact sNo|refine sT ?_|refine sF ?_|((first|refine sD ?_ ?_|refine sE ?_ ?_|refine sN ?_ ?_|refine sG ?_ ?_)<;>intro ht<;>(first|(cases ht;done)|skip))|refine wr ?_|refine ix ?_|refine ati ?_|refine row ?_|refine app ?_|refine dr ?_|refine VBs.own ?_|refine cf r0 ?_|refine cg r0 ?_|refine cz r0 ?_|refine cf s1 ?_|refine cg s1 ?_|refine cz s1 ?_|fail)<;>(try conv=>whnf))
    all_goals rfl
  have s1 := rsmalls24_p (n := 40) (by decide) hb hs
  cases hm : mayV a
  · have m1 := rmay_p hm
    (try conv=>whnf)<;>repeat'((first|exact sNo|refine sT ?_|refine sF ?_|((first|refine sD ?_ ?_|refine sE ?_ ?_|refine sN ?_ ?_|refine sG ?_ ?_)<;>intro ht<;>(first|(cases ht;done)|skip))|refine wr ?_|refine ix ?_|refine ati ?_|refine row ?_|refine app ?_|refine dr ?_|refine VBs.own ?_|refine cf r0 ?_|refine cg r0 ?_|refine cz r0 ?_|refine cf s1 ?_|refine cg s1 ?_|refine cz s1 ?_|refine cf m1 ?_|refine cg m1 ?_|refine cz m1 ?_|fail)<;>(try conv=>whnf))
    all_goals rfl
  have m1 := rmay_p hm
  cases hv : mayV c
  · have m2 := rmay_p hv
    (try conv=>whnf)<;>repeat'((first|exact sNo|refine sT ?_|refine sF ?_|((first|refine sD ?_ ?_|refine sE ?_ ?_|refine sN ?_ ?_|refine sG ?_ ?_)<;>intro ht<;>(first|(cases ht;done)|skip))|refine wr ?_|refine ix ?_|refine ati ?_|refine row ?_|refine app ?_|refine dr ?_|refine VBs.own ?_|refine cf r0 ?_|refine cg r0 ?_|refine cz r0 ?_|refine cf s1 ?_|refine cg s1 ?_|refine cz s1 ?_|refine cf m1 ?_|refine cg m1 ?_|refine cz m1 ?_|refine cf m2 ?_|refine cg m2 ?_|refine cz m2 ?_|fail)<;>(try conv=>whnf))
    all_goals rfl
  have m2 := rmay_p hv
  cases hd : mayV d
  · have m3 := rmay_p hd
    (try conv=>whnf)<;>repeat'((first|exact sNo|refine sT ?_|refine sF ?_|((first|refine sD ?_ ?_|refine sE ?_ ?_|refine sN ?_ ?_|refine sG ?_ ?_)<;>intro ht<;>(first|(cases ht;done)|skip))|refine wr ?_|refine ix ?_|refine ati ?_|refine row ?_|refine app ?_|refine dr ?_|refine VBs.own ?_|refine cf r0 ?_|refine cg r0 ?_|refine cz r0 ?_|refine cf s1 ?_|refine cg s1 ?_|refine cz s1 ?_|refine cf m1 ?_|refine cg m1 ?_|refine cz m1 ?_|refine cf m2 ?_|refine cg m2 ?_|refine cz m2 ?_|refine cf m3 ?_|refine cg m3 ?_|refine cz m3 ?_|fail)<;>(try conv=>whnf))
    all_goals rfl
  have m3 := rmay_p hd
  rw [Bool.and_eq_true, decide_eq_true_eq] at hs
  obtain ⟨h40, hs⟩ := hs
  have hS : ∀ b ∈ l, SmB b := fun b h => small_SmB (n := 30) (by decide) (List.all_eq_true.1 hs b h)
  have hT := two_of (l := l) (a := a) (c := c) (d := d) (hz hm) (hz2 hv) (by omega) hS
  have q1 := filled24_o l a hS (by omega) hm
  have hF := fill_of (l := l) a (by omega) hS
  have hp2 : peerB (fillB l (heardB (newBuf 0 3) 1 a)) 2 = true := by unfold peerB; rw [hF.self, hF.cn]; rfl
  have hp1 : peerB (heardB (fillB l (heardB (newBuf 0 3) 1 a)) 2 c) 1 = true := by show decide (0 ≤ (1 : Int) ∧ 1 < (fillB l (heardB (newBuf 0 3) 1 a)).cn ∧ 1 ≠ (fillB l (heardB (newBuf 0 3) 1 a)).self) = true; rw [hF.self, hF.cn]; rfl
  have hcn : (fillB l (heardB (newBuf 0 3) 1 a)).cn ≤ 4 := by rw [hF.cn]; show (3 : Int) ≤ 4; decide
  have q2 := bheard_o (fillB l (heardB (newBuf 0 3) 1 a)) 2 c hcn
  have e2 : hearB (fillB l (heardB (newBuf 0 3) 1 a)) 2 c = (heardB (fillB l (heardB (newBuf 0 3) 1 a)) 2 c, 0) := by unfold hearB; rw [hp2, hv]; rfl
  rw [e2] at q2
  have q3 := bheard_o (heardB (fillB l (heardB (newBuf 0 3) 1 a)) 2 c) 1 d hcn
  have e3 : hearB (heardB (fillB l (heardB (newBuf 0 3) 1 a)) 2 c) 1 d = (twoB l a c d, 0) := by unfold hearB; rw [hp1, hd]; rfl
  rw [e3] at q3
  dsimp only at q2 q3
  have q4 := rraised_a a d
  have q5 := bhas_a (twoB l a c d) (by rw [hT.cn]; decide) 1
  have q6 := bhas_a (twoB l a c d) (by rw [hT.cn]; decide) 2
  rw [hT.has1] at q5
  rw [hT.has2] at q6
  have q7 := blen_a (twoB l a c d)
  have q8 := bcol_o (twoB l a c d) hT.bi (by rw [hT.cn]; decide)
  have q9 := blen_a (colB (twoB l a c d))
  have q10 := bcol_o (colB (twoB l a c d)) hT.bi.col (by show 0 ≤ (twoB l a c d).cn ∧ (twoB l a c d).cn ≤ 4; rw [hT.cn]; decide)
  rw [hT.col] at q8
  rw [hT.len] at q9
  rw [col_twice] at q10
  have hle : (l.countP fun x => knownB x (mxV a d) && knownB x c) ≤ (twoB l a c d).m.length := by
    have h1 := hT.col
    unfold colN at h1
    omega
  have hlen : (twoB l a c d).m.length ≤ 64 := hT.bi.len
  clear hT hF e2 e3 hp1 hp2 hcn hz hz2 hm hv hd hs
  generalize colB (colB (twoB l a c d)) = b5 at *
  generalize colB (twoB l a c d) = b4 at *
  generalize twoB l a c d = b3 at *
  generalize heardB (fillB l (heardB (newBuf 0 3) 1 a)) 2 c = b2 at *
  generalize fillB l (heardB (newBuf 0 3) 1 a) = b1 at *
  generalize hu : mxV a d = u at *
  obtain ⟨C, hC⟩ : ∃ C : Nat → Nat, ∀ i, C i = (l.take i).countP fun x => knownB x u && knownB x c := ⟨_, fun _ => rfl⟩
  have hC0 : C 0 = 0 := by rw [hC]; rfl
  have hCs : ∀ i (h : i < l.length), C (i + 1) = C i + (knownB l[i] u && knownB l[i] c).toNat := fun i h => by rw [hC, hC, countP_take h]
  have hCe : (l.countP fun x => knownB x u && knownB x c) = C l.length := by rw [hC, List.take_length]
  have hCl : ∀ i, C i ≤ i := fun i => by rw [hC]; have := List.countP_le_length (l := l.take i) (p := fun x => knownB x u && knownB x c); rw [List.length_take] at this; omega
  rw [hCe] at q8 q9 hle
  clear hC hCe
  have hcnt : ((b3.m.length - C l.length : Nat) : Int) = (b3.m.length : Int) - (C l.length : Nat) := by omega
  rw [hcnt] at q9
  generalize b3.m.length = nn at *
  (try conv=>whnf)<;>repeat'((first|refine sF ?_ (vec_same _)|(refine pr ?_;(try conv=>whnf);(fail_if_success (show False)))|exact sNo|refine sT ?_|refine sF ?_|((first|refine sD ?_ ?_|refine sE ?_ ?_|refine sN ?_ ?_|refine sG ?_ ?_)<;>intro ht<;>(first|(cases ht;done)|skip))|refine wr ?_|refine ix ?_|refine ati ?_|refine row ?_|refine app ?_|refine dr ?_|refine VBs.own ?_|refine cp r0 ?_|refine cf r0 ?_|refine cg r0 ?_|refine cz r0 ?_|refine cp s1 ?_|refine cf s1 ?_|refine cg s1 ?_|refine cz s1 ?_|refine cp m1 ?_|refine cf m1 ?_|refine cg m1 ?_|refine cz m1 ?_|refine cp m2 ?_|refine cf m2 ?_|refine cg m2 ?_|refine cz m2 ?_|refine cp m3 ?_|refine cf m3 ?_|refine cg m3 ?_|refine cz m3 ?_|(refine co q1 ?_;rintro r h' ⟨rfl,rfl⟩)|(refine co q2 ?_;rintro r h' ⟨rfl,rfl⟩)|(refine co q3 ?_;rintro r h' ⟨rfl,rfl⟩)|refine cp q4 ?_|refine cf q4 ?_|refine cg q4 ?_|refine cz q4 ?_|refine cp q5 ?_|refine cf q5 ?_|refine cg q5 ?_|refine cz q5 ?_|refine cp q6 ?_|refine cf q6 ?_|refine cg q6 ?_|refine cz q6 ?_|refine cp q7 ?_|refine cf q7 ?_|refine cg q7 ?_|refine cz q7 ?_|fail)<;>(try conv=>whnf))
  refine VLp.mk ⟨[], [5, 6, 7, 9, 11], [13, 76], fun k vs h => ∃ i : Nat, vs = [i64 (C i : Nat), i64 i] ∧ h = [.blk 0 [i64 (a 0), i64 (a 1), i64 (a 2), i64 (a 3)] 33, .blk 1 [i64 (c 0), i64 (c 1), i64 (c 2), i64 (c 3)] 33, .blk 2 [i64 (d 0), i64 (d 1), i64 (d 2), i64 (d 3)] 33, bufP 3 b3, .blk 4 [i64 (u 0), i64 (u 1), i64 (u 2), i64 (u 3)] 33] ∧ i ≤ l.length ∧ k = l.length - i, l.length, ?_⟩
  conv => whnf
  refine ⟨⟨0, by rw [hC0] <;> rfl, rfl, by omega, by omega⟩, ?_⟩
  rintro k vs h ⟨i, rfl, rfl, hi, rfl⟩
  by_cases hin : i < l.length
  · have hSi := hS _ (List.getElem_mem hin)
    have hCi := hCs i hin
    have hCl' := hCl i
    cases k1 : knownB l[i] u
    · have p1 := bknown_p hSi k1
      rw [k1] at hCi
      (try conv=>whnf)<;>repeat'((first|(refine pr ?_;(try conv=>whnf);(fail_if_success (show False)))|exact sNo|refine sT ?_|refine sF ?_|((first|refine sD ?_ ?_|refine sE ?_ ?_|refine sN ?_ ?_|refine sG ?_ ?_)<;>intro ht<;>(first|(cases ht;done)|skip))|refine wr ?_|refine ix ?_|refine ati ?_|refine row ?_|refine app ?_|refine dr ?_|refine VBs.own ?_|refine cp p1 ?_|refine cf p1 ?_|refine cg p1 ?_|refine cz p1 ?_|fail)<;>(try conv=>whnf))
      all_goals exact VRd.mk rfl ⟨l.length - (i + 1), by omega, i + 1, by rw [hCi] <;> rfl, rfl, by omega, rfl⟩
    · have p1 := bknown_p hSi k1
      rw [k1] at hCi
      cases k2 : knownB l[i] c
      · have p2 := bknown_p hSi k2
        rw [k2] at hCi
        (try conv=>whnf)<;>repeat'((first|(refine pr ?_;(try conv=>whnf);(fail_if_success (show False)))|exact sNo|refine sT ?_|refine sF ?_|((first|refine sD ?_ ?_|refine sE ?_ ?_|refine sN ?_ ?_|refine sG ?_ ?_)<;>intro ht<;>(first|(cases ht;done)|skip))|refine wr ?_|refine ix ?_|refine ati ?_|refine row ?_|refine app ?_|refine dr ?_|refine VBs.own ?_|refine cp p1 ?_|refine cf p1 ?_|refine cg p1 ?_|refine cz p1 ?_|refine cp p2 ?_|refine cf p2 ?_|refine cg p2 ?_|refine cz p2 ?_|fail)<;>(try conv=>whnf))
        all_goals exact VRd.mk rfl ⟨l.length - (i + 1), by omega, i + 1, by rw [hCi] <;> rfl, rfl, by omega, rfl⟩
      · have p2 := bknown_p hSi k2
        rw [k2] at hCi
        (try conv=>whnf)<;>repeat'((first|(refine pr ?_;(try conv=>whnf);(fail_if_success (show False)))|exact sNo|refine sT ?_|refine sF ?_|((first|refine sD ?_ ?_|refine sE ?_ ?_|refine sN ?_ ?_|refine sG ?_ ?_)<;>intro ht<;>(first|(cases ht;done)|skip))|refine wr ?_|refine ix ?_|refine ati ?_|refine row ?_|refine app ?_|refine dr ?_|refine VBs.own ?_|refine cp p1 ?_|refine cf p1 ?_|refine cg p1 ?_|refine cz p1 ?_|refine cp p2 ?_|refine cf p2 ?_|refine cg p2 ?_|refine cz p2 ?_|fail)<;>(try conv=>whnf))
        all_goals exact VRd.mk rfl ⟨l.length - (i + 1), by omega, i + 1, by rw [hCi] <;> rfl, rfl, by omega, rfl⟩
  · obtain rfl : i = l.length := by omega
    have hCl' := hCl l.length
    (try conv=>whnf)<;>repeat'((first|exact sNo|refine sT ?_|refine sF ?_|((first|refine sD ?_ ?_|refine sE ?_ ?_|refine sN ?_ ?_|refine sG ?_ ?_)<;>intro ht<;>(first|(cases ht;done)|skip))|refine wr ?_|refine ix ?_|refine ati ?_|refine row ?_|refine app ?_|refine dr ?_|refine VBs.own ?_|(refine co q8 ?_;rintro r h' ⟨rfl,rfl⟩)|refine cf q9 ?_|refine cg q9 ?_|refine cz q9 ?_|fail)<;>(try conv=>whnf))
    (try conv=>whnf)<;>repeat'((first|exact sNo|refine sT ?_|refine sF ?_|((first|refine sD ?_ ?_|refine sE ?_ ?_|refine sN ?_ ?_|refine sG ?_ ?_)<;>intro ht<;>(first|(cases ht;done)|skip))|refine wr ?_|refine ix ?_|refine ati ?_|refine row ?_|refine app ?_|refine dr ?_|refine VBs.own ?_|(refine co q10 ?_;rintro r h' ⟨rfl,rfl⟩)|refine cf q9 ?_|refine cg q9 ?_|refine cz q9 ?_|fail)<;>(try conv=>whnf))
    all_goals rfl
end Go.Proofs.YtlghgdgpbnlpmaaGreat
