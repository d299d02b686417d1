/- What is proved: what cmp.Compare and the search for a key of numbers answer. Conditions: none. -/
import Derived.Test.YtlghgdgpbnlpmaaGreatGc
import Derived.Test.YtlghgdgpbnlpmaaGreatMQ
import Derived.Lib.Overlaps
namespace Go.Proofs.YtlghgdgpbnlpmaaGreat
open Go.RowKit
set_option linter.unusedVariables false
set_option linter.unusedSimpArgs false
set_option maxRecDepth 100000
set_option maxHeartbeats 16000000
def prB (p : Int × Bun) : List AV := i64 p.1 :: bunE p.2
theorem isNaNB_a (a : Int) : AFnP Tryz.prog 136 [i64 a] (.bool false) := by
  refine afnp_in ty_ok Tryz.call136 Tryz.func136 rfl rfl (by decide +kernel) ?_
  (try conv=>whnf)<;>repeat'((first|exact sNo|refine sT ?_|refine sF ?_|((first|refine sD ?_ ?_|refine sE ?_ ?_|refine sN ?_ ?_|refine sG ?_ ?_)<;>intro ht<;>(first|(cases ht;done)|skip))|refine wr ?_|refine ix ?_|refine ati ?_|refine row ?_|refine app ?_|refine dr ?_|refine VBs.own ?_|fail)<;>(try conv=>whnf))
  all_goals first | rfl | simp_all
theorem cmpB_a (a b : Int) : AFnP Tryz.prog 115 [i64 a, i64 b] (i64 (cmpO ltI a b)) := by
  refine afnp_in ty_ok Tryz.call115 Tryz.func115 rfl rfl (by decide +kernel) ?_
  have r1 := isNaNB_a a
  have r2 := isNaNB_a b
  (try conv=>whnf)<;>repeat'((first|exact sNo|refine sT ?_|refine sF ?_|((first|refine sD ?_ ?_|refine sE ?_ ?_|refine sN ?_ ?_|refine sG ?_ ?_)<;>intro ht<;>(first|(cases ht;done)|skip))|refine wr ?_|refine ix ?_|refine ati ?_|refine row ?_|refine app ?_|refine dr ?_|refine VBs.own ?_|refine cf r1 ?_|refine cg r1 ?_|refine cz r1 ?_|refine cf r2 ?_|refine cg r2 ?_|refine cz r2 ?_|fail)<;>(try conv=>whnf))
  all_goals (refine congrArg i64 ?_; unfold cmpO ltI; (try rw [gtr_eq] at *); simp [*])
theorem at1B_a (p : Int × Bun) (k : Int) : AFnP Tryz.prog 114 [.agg (prB p), i64 k] (i64 (cmpO ltI p.1 k)) := by
  refine afnp_in ty_ok Tryz.call114 Tryz.func114 rfl rfl (by decide +kernel) ?_
  have r1 := cmpB_a p.1 k
  unfold prB
  (try conv=>whnf)<;>repeat'((first|exact sNo|refine sT ?_|refine sF ?_|((first|refine sD ?_ ?_|refine sE ?_ ?_|refine sN ?_ ?_|refine sG ?_ ?_)<;>intro ht<;>(first|(cases ht;done)|skip))|refine wr ?_|refine ix ?_|refine ati ?_|refine row ?_|refine app ?_|refine dr ?_|refine VBs.own ?_|refine cf r1 ?_|refine cg r1 ?_|refine cz r1 ?_|fail)<;>(try conv=>whnf))
  all_goals rfl
theorem searchB_a (l : List (Int × Bun)) (hn : l.length ≤ 1000000) (hs : srtM ltI l) (k : Int) :
    AFnP Tryz.prog 113 [lstE prB l, i64 k, .fn 114 []] (.tup [i64 (posM ltI k l), .bool (fndM ltI k l)]) := by
  refine afnp_in ty_ok Tryz.call113 Tryz.func113 rfl rfl (by decide +kernel) ?_
  have hc := fun p => at1B_a p k
  have hle := posM_le (lt := ltI) k l
  (try conv=>whnf)<;>repeat'((first|exact sNo|refine sT ?_|refine sF ?_|((first|refine sD ?_ ?_|refine sE ?_ ?_|refine sN ?_ ?_|refine sG ?_ ?_)<;>intro ht<;>(first|(cases ht;done)|skip))|refine wr ?_|refine ix ?_|refine ati ?_|refine row ?_|refine app ?_|refine dr ?_|refine VBs.own ?_|fail)<;>(try conv=>whnf))
  refine VLp.mk ⟨[], [], [9, 10], fun k' vs h => ∃ i j : Nat, vs = [i64 i, i64 j] ∧ h = [] ∧ i ≤ posM ltI k l ∧ posM ltI k l ≤ j ∧ j ≤ l.length ∧ k' = j - i, l.length, ?_⟩
  conv => whnf
  refine ⟨⟨0, l.length, rfl, rfl, by omega, by omega, by omega, by omega⟩, ?_⟩
  rintro k' vs h ⟨i, j, rfl, rfl, hi, hj, hjn, rfl⟩
  by_cases hij : i < j
  · obtain ⟨m, hm, hm1, hm2⟩ : ∃ m : Nat, ((i : Int) + (j : Int)) / ((2 ^ 1 : Nat) : Int) = (m : Int) ∧ i ≤ m ∧ m < j := ⟨(i + j) / 2, by omega, by omega, by omega⟩
    have h1 : ltI (l[m]'(by omega)).1 k = true → m + 1 ≤ posM ltI k l := fun h => by
      rcases Nat.lt_or_ge m (posM ltI k l) with h' | h'
      · exact h'
      · rw [posM_ge koI hs (by omega) h'] at h; cases h
    have h2 : ltI (l[m]'(by omega)).1 k = false → posM ltI k l ≤ m := fun h => by
      rcases Nat.lt_or_ge m (posM ltI k l) with h' | h'
      · rw [posM_lt h' (by omega)] at h; cases h
      · exact h'
    have hcm := hc (l[m]'(by omega))
    have hneg := cmpO_neg (lt := ltI) (a := (l[m]'(by omega)).1) (b := k)
    generalize cmpO ltI (l[m]'(by omega)).1 k = z at *
    generalize posM ltI k l = p at *
    (try conv=>whnf)<;>repeat'((first|exact sNo|refine sT ?_|refine sF ?_|((first|refine sD ?_ ?_|refine sE ?_ ?_|refine sN ?_ ?_|refine sG ?_ ?_)<;>intro ht<;>(first|(cases ht;done)|skip))|refine wr ?_|refine ix ?_|refine ati ?_|refine row ?_|refine app ?_|refine dr ?_|refine VBs.own ?_|(refine VWr.mk ⟨(m : Int),by rw [hm];exact wrap_in ⟨by omega,by omega⟩,?_⟩)|refine cf hcm ?_|refine cg hcm ?_|refine cz hcm ?_|fail)<;>(try conv=>whnf))
    · exact VRd.mk rfl ⟨m - i, by omega, i, m, rfl, rfl, hi, h2 (by cases h : ltI (l[m]'(by omega)).1 k; rfl; exact absurd (hneg.2 h) ht), by omega, rfl⟩
    · exact VRd.mk rfl ⟨j - (m + 1), by omega, m + 1, j, rfl, rfl, h1 (hneg.1 ht), hj, hjn, rfl⟩
  · obtain rfl : i = j := by omega
    obtain rfl : i = posM ltI k l := by omega
    by_cases hp : posM ltI k l < l.length
    · have hcm := hc l[posM ltI k l]
      rw [fnd_cmp hp]
      generalize cmpO ltI (l[posM ltI k l]).1 k = z at *
      (try conv=>whnf)<;>repeat'((first|exact sNo|refine sT ?_|refine sF ?_|((first|refine sD ?_ ?_|refine sE ?_ ?_|refine sN ?_ ?_|refine sG ?_ ?_)<;>intro ht<;>(first|(cases ht;done)|skip))|refine wr ?_|refine ix ?_|refine ati ?_|refine row ?_|refine app ?_|refine dr ?_|refine VBs.own ?_|refine cf hcm ?_|refine cg hcm ?_|refine cz hcm ?_|fail)<;>(try conv=>whnf))
      all_goals simp [*]
    · have hf : fndM ltI k l = false := by unfold fndM; rw [get_end (by omega)]; rfl
      rw [hf]
      (try conv=>whnf)<;>repeat'((first|exact sNo|refine sT ?_|refine sF ?_|((first|refine sD ?_ ?_|refine sE ?_ ?_|refine sN ?_ ?_|refine sG ?_ ?_)<;>intro ht<;>(first|(cases ht;done)|skip))|refine wr ?_|refine ix ?_|refine ati ?_|refine row ?_|refine app ?_|refine dr ?_|refine VBs.own ?_|fail)<;>(try conv=>whnf))
      all_goals rfl
theorem atB_a (l : List (Int × Bun)) (hn : l.length ≤ 1000000) (hs : srtM ltI l) (k : Int) : AFnP Tryz.prog 89 [.agg [lstE prB l], i64 k] (.tup [i64 (posM ltI k l), .bool (fndM ltI k l)]) := by
  refine afnp_in ty_ok Tryz.call89 Tryz.func89 rfl rfl (by decide +kernel) ?_
  have r1 := searchB_a l hn hs k
  generalize posM ltI k l = p at *
  generalize fndM ltI k l = b at *
  cases b
  all_goals
    (try conv=>whnf)<;>repeat'((first|exact sNo|refine sT ?_|refine sF ?_|((first|refine sD ?_ ?_|refine sE ?_ ?_|refine sN ?_ ?_|refine sG ?_ ?_)<;>intro ht<;>(first|(cases ht;done)|skip))|refine wr ?_|refine ix ?_|refine ati ?_|refine row ?_|refine app ?_|refine dr ?_|refine VBs.own ?_|refine cf r1 ?_|refine cg r1 ?_|refine cz r1 ?_|fail)<;>(try conv=>whnf))
    all_goals rfl
end Go.Proofs.YtlghgdgpbnlpmaaGreat
/- What is proved: what slices.Insert, Delete and Clone do to slices of pairs of numbers that are the caller's own. Conditions: none. -/
namespace Go.Proofs.YtlghgdgpbnlpmaaGreat
open Go.RowKit
set_option linter.unusedVariables false
set_option linter.unusedSimpArgs false
set_option maxRecDepth 100000
set_option maxHeartbeats 16000000
theorem ovB_f : OvF Tryz.prog 116 := by
  intro w a b ob la ca lb cb E1 E2 c1 c2 hab h1 h2 hp
  rw [run_callFunc_extern Tryz.func116 (by kernel_rfl) (by kernel_rfl) (by kernel_rfl) (e := Extern.SlicesOverlaps.overlaps #[24, 24] #[4]) (by kernel_rfl),
    Lib.run_overlaps_apart w 24 4 117 Tryz.underlying24 _ (fun w => Tryz.sizeOf117 w) ⟨a, 0, none⟩ ⟨b, ob, none⟩ la ca lb cb hab E1 E2 c1.size c2.size (by simp [World.shape?, h1]) (by simp [World.shape?, h2]) (by omega) (by simp [World.frozen?, h1]) (by simp [World.frozen?, h1])]
  rfl
theorem insB_o (R : List (List AV)) (x : List AV) (i : Nat) (hn : R.length ≤ 1000000) (hi : i ≤ R.length) (hR : RowsOk 11 R) (hx : RowsOk 11 [x]) :
    AFn Tryz.prog 91 [.own 0 R.length, i64 i, .own 1 1] [.row 0 117 11 R, .row 1 117 11 [x]]
      (fun r h' => r = .own 2 (R.length + 1) ∧ (h' = [.row 1 117 11 [x], .row 2 117 11 (R.take i ++ x :: R.drop i)] ∨ h' = [.row 0 117 11 R, .row 1 117 11 [x], .row 2 117 11 (R.take i ++ x :: R.drop i)])) := by
  rcases Nat.lt_or_eq_of_le hi with hlt | rfl
  · refine AFn.dn Tryz.call91 (by omega) fun C hC => ?_
    by_cases hroom : R.length + 1 ≤ C
    · refine AFn.up (R := fun r h' => r = .sub 2 11 0 (R.length + 1) C true ∧ h' = [.row 1 117 11 [x], .row 2 117 11 (R.take i ++ x :: R.drop i)]) ?_ (by rintro r h' ⟨rfl, rfl⟩; exact ⟨rfl, .inl rfl⟩)
      refine afn_in ty_ok Tryz.call91 Tryz.func91 rfl rfl (by decide +kernel) ?_
      have c0 := ovB_f
      (try conv=>whnf)<;>repeat'((first|refine Or.inr (VSx.mk ⟨R.length + 1,rfl,rfl,by simp,by omega,by omega,?_⟩)|exact sNo|refine sT ?_|refine sF ?_|((first|refine sD ?_ ?_|refine sE ?_ ?_|refine sN ?_ ?_|refine sG ?_ ?_)<;>intro ht<;>(first|(cases ht;done)|skip))|refine wr ?_|refine ix ?_|refine ati ?_|refine row ?_|refine app ?_|refine dr ?_|refine VAnd.mk ?_ ?_|exact VJe.mk rfl ⟨rfl,rfl⟩|refine .inl (slM ?_)|refine .inl (slO ?_)|refine slM ?_|refine slO ?_|refine slN ?_|refine slS ?_|refine swB (swM fun C hC=>?_)|refine sj ?_|refine .inl (sv ?_)|refine sv ?_|refine cl ?_|refine s3 ?_|refine az ?_|refine rm ?_|refine VBs.own ?_|refine VOv.mk ovB_f (by omega) (by omega) rfl ?_|(refine VCy.mk ⟨R.length - i,by simp;omega,by simp,by omega,by omega,by omega,by simp;omega,by simpa only [Nat.zero_add,Nat.sub_zero,show R.length + 1 - R.length = 1 by omega,List.replicate_one,up_src hlt] using rows_drop hR i,?_⟩)|(refine VCy.mk ⟨1,hx,by simp;omega,by omega,by omega,by omega,by simp;omega,hx,?_⟩)|fail)<;>(try conv=>whnf))
      all_goals refine VRt.mk rfl ⟨rfl, ?_⟩
      all_goals (conv => lhs; whnf)
      all_goals refine congrArg (fun Z => [AP.row 1 117 11 [x], AP.row 2 117 11 Z]) ?_
      all_goals simp only [Nat.zero_add, show R.length + 1 - R.length = 1 by omega, List.replicate_one, up_src hlt]
      all_goals exact up_all hlt
    · refine afn_in ty_ok Tryz.call91 Tryz.func91 rfl rfl (by decide +kernel) ?_
      (try conv=>whnf)<;>repeat'((first|(refine drx [4] [] [] ?_;(try conv=>whnf);(fail_if_success (show False)))|exact sNo|refine sT ?_|refine sF ?_|((first|refine sD ?_ ?_|refine sE ?_ ?_|refine sN ?_ ?_|refine sG ?_ ?_)<;>intro ht<;>(first|(cases ht;done)|skip))|refine wr ?_|refine ix ?_|refine ati ?_|refine row ?_|refine app ?_|refine dr ?_|refine VAnd.mk ?_ ?_|exact VJe.mk rfl ⟨rfl,rfl⟩|refine .inl (slM ?_)|refine .inl (slO ?_)|refine slM ?_|refine slO ?_|refine slN ?_|refine slS ?_|refine swB (swM fun C hC=>?_)|refine sj ?_|refine .inl (sv ?_)|refine sv ?_|refine cl ?_|refine s3 ?_|refine az ?_|refine rm ?_|refine VBs.own ?_|refine VAg.mk ⟨R.length + 1 - i,by omega,rfl,by omega,by omega,by omega,by omega,?_⟩|(refine VCy.mk ⟨1,hx,by simp;omega,by omega,by omega,by omega,by simp;omega,hx,?_⟩)|(refine VCy.mk ⟨R.length - i,by omega,by simp;omega,by omega,by omega,by omega,by simp;omega,rows_take (rows_take (rows_drop hR _) _) _,?_⟩)|fail)<;>(try conv=>whnf))
      refine VRt.mk rfl (And.intro ?_ (Or.inr ?_))
      · (conv => lhs; whnf)
        rw [show i - 0 + (R.length + 1 - i) = R.length + 1 by omega]
      · (conv => lhs; whnf)
        refine congrArg (fun Z => [AP.row 0 117 11 R, AP.row 1 117 11 [x], AP.row 2 117 11 Z]) ?_
        simp only [Nat.zero_add, Nat.sub_zero]
        exact grow_all hlt (List.length_replicate ..)
  · rw [List.take_length, List.drop_length]
    refine afn_in ty_ok Tryz.call91 Tryz.func91 rfl rfl (by decide +kernel) ?_
    (try conv=>whnf)<;>repeat'((first|exact sNo|refine sT ?_|refine sF ?_|((first|refine sD ?_ ?_|refine sE ?_ ?_|refine sN ?_ ?_|refine sG ?_ ?_)<;>intro ht<;>(first|(cases ht;done)|skip))|refine wr ?_|refine ix ?_|refine ati ?_|refine row ?_|refine app ?_|refine dr ?_|refine VAnd.mk ?_ ?_|exact VJe.mk rfl ⟨rfl,rfl⟩|refine .inl (slM ?_)|refine .inl (slO ?_)|refine slM ?_|refine slO ?_|refine slN ?_|refine slS ?_|refine swB (swM fun C hC=>?_)|refine sj ?_|refine .inl (sv ?_)|refine sv ?_|refine cl ?_|refine s3 ?_|refine az ?_|refine rm ?_|refine VBs.own ?_|refine VApp.mk hx (by omega) ?_|fail)<;>(try conv=>whnf))
    all_goals exact VRt.mk rfl ⟨rfl, .inl rfl⟩
theorem delB_o (R : List (List AV)) (i : Nat) (hn : R.length ≤ 1000000) (hi : i < R.length) (hR : RowsOk 11 R) :
    AFn Tryz.prog 93 [.own 0 R.length, i64 i, i64 ((i : Int) + 1)] [.row 0 117 11 R]
      (fun r h' => r = .own 1 (R.length - 1) ∧ h' = [.row 1 117 11 (R.take i ++ R.drop (i + 1))]) := by
  refine AFn.dn Tryz.call93 (by omega) fun C hC => ?_
  refine AFn.up (R := fun r h' => r = .sub 1 11 0 (R.length - 1) C true ∧ h' = [.row 1 117 11 (R.take i ++ R.drop (i + 1))]) ?_ (by rintro r h' ⟨rfl, rfl⟩; exact ⟨rfl, rfl⟩)
  refine afn_in ty_ok Tryz.call93 Tryz.func93 rfl rfl (by decide +kernel) ?_
  (try conv=>whnf)<;>repeat'((first|exact sNo|refine sT ?_|refine sF ?_|((first|refine sD ?_ ?_|refine sE ?_ ?_|refine sN ?_ ?_|refine sG ?_ ?_)<;>intro ht<;>(first|(cases ht;done)|skip))|refine wr ?_|refine ix ?_|refine ati ?_|refine row ?_|refine app ?_|refine dr ?_|refine VAnd.mk ?_ ?_|exact VJe.mk rfl ⟨rfl,rfl⟩|refine .inl (slM ?_)|refine .inl (slO ?_)|refine slM ?_|refine slO ?_|refine slN ?_|refine slS ?_|refine swB (swM fun C hC=>?_)|refine sj ?_|refine .inl (sv ?_)|refine sv ?_|refine cl ?_|refine s3 ?_|refine az ?_|refine rm ?_|refine VBs.own ?_|refine VS3.mk ⟨i,i + 1,R.length,rfl,rfl,rfl,by omega,by omega,by omega,?_⟩|refine VSv.mk ⟨i + 1,R.length,by simp,by simp,by omega,by omega,?_⟩|refine VAi.mk ⟨⟨by omega,rows_take (rows_drop hR _) _⟩,rfl,by omega,by omega,fun hNC => ?_⟩|fail)<;>(try conv=>whnf))
  refine VRt.mk rfl (And.intro ?_ ?_)
  · (conv => lhs; whnf)
    rw [show i - 0 + (R.length - (i + 1)) = R.length - 1 by omega]
  · (conv => lhs; whnf)
    refine congrArg (fun Z => [AP.row 1 117 11 Z]) ?_
    have hX : (R.take (i - 0) ++ ((R.drop (0 + (i + 1))).take (R.length - (i + 1)))) = R.take i ++ R.drop (i + 1) := by
      rw [Nat.sub_zero, Nat.zero_add, List.take_of_length_le (l := R.drop (i + 1)) (by rw [List.length_drop]; omega)]
    have hXl : (R.take i ++ R.drop (i + 1)).length = R.length - 1 := by rw [List.length_append, List.length_take, List.length_drop]; omega
    have hXd : ∀ m, R.length - 1 ≤ m → (R.take i ++ R.drop (i + 1)).drop m = [] := fun m h => List.drop_of_length_le (by omega)
    rw [hX, Nat.zero_add, show i - 0 + (R.length - (i + 1)) = R.length - 1 by omega, hXd _ (Nat.le_refl _), hXd _ (by omega), List.take_of_length_le (by omega)]
    simp
theorem cloneB_o (l : List (Int × Bun)) (hn : l.length ≤ 1000000) : AFn Tryz.prog 90 [lstE prB l] [] (fun r h' => r = .own 0 l.length ∧ h' = [.row 0 117 11 (l.map prB)]) := by
  refine AFn.nilV (El := 117) (k := 11) (R' := fun r h' => (r = .nils ∧ h' = [] ∧ l.length = 0) ∨ (r = .own 0 l.length ∧ h' = [.row 0 117 11 (l.map prB)])) ?_ (fun r h' hr => hr.symm.imp id fun ⟨h1, h2, h3⟩ => ⟨h1, h2, by rw [h3], by rw [List.eq_nil_of_length_eq_zero h3]; rfl⟩)
  refine afn_in ty_ok Tryz.call90 Tryz.func90 rfl rfl (by decide +kernel) ?_
  (try conv=>whnf)<;>repeat'((first|exact sNo|refine sT ?_|refine sF ?_|((first|refine sD ?_ ?_|refine sE ?_ ?_|refine sN ?_ ?_|refine sG ?_ ?_)<;>intro ht<;>(first|(cases ht;done)|skip))|refine wr ?_|refine ix ?_|refine ati ?_|refine row ?_|refine app ?_|refine dr ?_|refine VBs.own ?_|(refine Or.inr (VNl.mk ?_);intro b hb;cases b)|fail)<;>(try conv=>whnf))
  · exact VRt.mk rfl (.inr ⟨by simp, rfl⟩)
  · exact VRt.mk rfl (.inl ⟨rfl, rfl, hb rfl⟩)
theorem cloneB_a (l : List (Int × Bun)) (hn : l.length ≤ 1000000) : AFnP Tryz.prog 90 [lstE prB l] (lstE prB l) := by
  refine afnp_in ty_ok Tryz.call90 Tryz.func90 rfl rfl (by decide +kernel) ?_
  (try conv=>whnf)<;>repeat'((first|exact sNo|refine sT ?_|refine sF ?_|((first|refine sD ?_ ?_|refine sE ?_ ?_|refine sN ?_ ?_|refine sG ?_ ?_)<;>intro ht<;>(first|(cases ht;done)|skip))|refine wr ?_|refine ix ?_|refine ati ?_|refine row ?_|refine app ?_|refine dr ?_|refine VBs.own ?_|(refine Or.inr (VNl.mk ?_);intro b hb;cases b)|fail)<;>(try conv=>whnf))
  · simp [lstE]
  · obtain rfl := List.eq_nil_of_length_eq_zero (hb rfl)
    rfl
end Go.Proofs.YtlghgdgpbnlpmaaGreat
/- What is proved: what the methods of sorted maps of numbers answer. Conditions: none. -/
namespace Go.Proofs.YtlghgdgpbnlpmaaGreat
open Go.RowKit
set_option linter.unusedVariables false
set_option linter.unusedSimpArgs false
set_option maxRecDepth 100000
set_option maxHeartbeats 16000000
theorem prB_ok (l : List (Int × Bun)) : RowsOk 11 (l.map prB) := rok_map (fun _ => ⟨rfl, rfl⟩)
theorem putB_a (l : List (Int × Bun)) (hn : l.length ≤ 1000000) (hs : srtM ltI l) (k : Int) (v : Bun) : AFnP Tryz.prog 59 [.agg [lstE prB l], i64 k, (.agg (bunE v))] (.agg [lstE prB (putM ltI k v l)]) := by
  refine afnp_in ty_ok Tryz.call59 Tryz.func59 rfl rfl (by decide +kernel) ?_
  have r1 := atB_a l hn hs k
  have r2 := cloneB_o l hn
  have hle := posM_le (lt := ltI) k l
  have r3 := insB_o (l.map prB) (i64 k :: bunE v) (posM ltI k l) (by rw [List.length_map]; exact hn) (by rw [List.length_map]; exact hle) (prB_ok l) (rok_lit rfl)
  rw [List.length_map] at r3
  cases hf : fndM ltI k l
  · rw [hf] at r1
    have e : putM ltI k v l = l.take (posM ltI k l) ++ (k, v) :: l.drop (posM ltI k l) := put_no hf
    have el : (putM ltI k v l).length = l.length + 1 := by rw [e]; simp; omega
    have er : (l.map prB).take (posM ltI k l) ++ (i64 k :: bunE v) :: (l.map prB).drop (posM ltI k l) = (putM ltI k v l).map prB := by rw [e]; simp [prB]
    rw [er, ← el] at r3
    generalize posM ltI k l = p at *
    generalize putM ltI k v l = m at *
    (try conv=>whnf)<;>repeat'((first|exact sNo|refine sT ?_|refine sF ?_|((first|refine sD ?_ ?_|refine sE ?_ ?_|refine sN ?_ ?_|refine sG ?_ ?_)<;>intro ht<;>(first|(cases ht;done)|skip))|refine wr ?_|refine ix ?_|refine ati ?_|refine row ?_|refine app ?_|refine dr ?_|refine VBs.own ?_|refine cf r1 ?_|refine cg r1 ?_|refine cz r1 ?_|(refine co r2 ?_;rintro r h' ⟨rfl,rfl⟩)|(refine co r3 ?_;rintro r h' ⟨rfl,(rfl|rfl)⟩)|fail)<;>(try conv=>whnf))
    all_goals rfl
  · rw [hf] at r1
    obtain ⟨hp, hk⟩ := (fnd_iff koI).1 hf
    have e : putM ltI k v l = l.set (posM ltI k l) (k, v) := put_yes hf
    have er : (putM ltI k v l).map prB = (l.map prB).set (posM ltI k l) (i64 (l[posM ltI k l]).1 :: bunE v) := by rw [e, List.map_set, hk]; rfl
    have el : (putM ltI k v l).length = l.length := by rw [e]; simp
    unfold lstE
    rw [er, el]
    generalize posM ltI k l = p at *
    (try conv=>whnf)<;>repeat'((first|exact sNo|refine sT ?_|refine sF ?_|((first|refine sD ?_ ?_|refine sE ?_ ?_|refine sN ?_ ?_|refine sG ?_ ?_)<;>intro ht<;>(first|(cases ht;done)|skip))|refine wr ?_|refine ix ?_|refine ati ?_|refine row ?_|refine app ?_|refine dr ?_|refine VBs.own ?_|refine cf r1 ?_|refine cg r1 ?_|refine cz r1 ?_|(refine co r2 ?_;rintro r h' ⟨rfl,rfl⟩)|fail)<;>(try conv=>whnf))
    all_goals rfl
theorem delB_a (l : List (Int × Bun)) (hn : l.length ≤ 1000000) (hs : srtM ltI l) (k : Int) : AFnP Tryz.prog 63 [.agg [lstE prB l], i64 k] (.agg [lstE prB (delM ltI k l)]) := by
  refine afnp_in ty_ok Tryz.call63 Tryz.func63 rfl rfl (by decide +kernel) ?_
  have r1 := atB_a l hn hs k
  have r2 := cloneB_o l hn
  have hle := posM_le (lt := ltI) k l
  cases hf : fndM ltI k l
  · rw [hf] at r1
    rw [del_no hf]
    generalize posM ltI k l = p at *
    (try conv=>whnf)<;>repeat'((first|exact sNo|refine sT ?_|refine sF ?_|((first|refine sD ?_ ?_|refine sE ?_ ?_|refine sN ?_ ?_|refine sG ?_ ?_)<;>intro ht<;>(first|(cases ht;done)|skip))|refine wr ?_|refine ix ?_|refine ati ?_|refine row ?_|refine app ?_|refine dr ?_|refine VBs.own ?_|refine cf r1 ?_|refine cg r1 ?_|refine cz r1 ?_|(refine co r2 ?_;rintro r h' ⟨rfl,rfl⟩)|fail)<;>(try conv=>whnf))
    all_goals rfl
  · rw [hf] at r1
    obtain ⟨hp, hk⟩ := (fnd_iff koI).1 hf
    have r3 := delB_o (l.map prB) (posM ltI k l) (by rw [List.length_map]; exact hn) (by rw [List.length_map]; exact hp) (prB_ok l)
    rw [List.length_map] at r3
    have e : delM ltI k l = l.take (posM ltI k l) ++ l.drop (posM ltI k l + 1) := del_yes hf
    have el : (delM ltI k l).length = l.length - 1 := by rw [e]; simp; omega
    have er : (l.map prB).take (posM ltI k l) ++ (l.map prB).drop (posM ltI k l + 1) = (delM ltI k l).map prB := by rw [e]; simp
    rw [er, ← el] at r3
    generalize posM ltI k l = p at *
    generalize delM ltI k l = m at *
    (try conv=>whnf)<;>repeat'((first|exact sNo|refine sT ?_|refine sF ?_|((first|refine sD ?_ ?_|refine sE ?_ ?_|refine sN ?_ ?_|refine sG ?_ ?_)<;>intro ht<;>(first|(cases ht;done)|skip))|refine wr ?_|refine ix ?_|refine ati ?_|refine row ?_|refine app ?_|refine dr ?_|refine VBs.own ?_|refine cf r1 ?_|refine cg r1 ?_|refine cz r1 ?_|(refine co r2 ?_;rintro r h' ⟨rfl,rfl⟩)|(refine co r3 ?_;rintro r h' ⟨rfl,rfl⟩)|fail)<;>(try conv=>whnf))
    all_goals rfl
def getDB : Option Bun → AV
  | some v => .tup [(.agg (bunE v)), .bool true]
  | none => .tup [.agg (bunE zeroB), .bool false]
theorem getB_a (l : List (Int × Bun)) (hn : l.length ≤ 1000000) (hs : srtM ltI l) (k : Int) : AFnP Tryz.prog 56 [.agg [lstE prB l], i64 k] (getDB (getM ltI k l)) := by
  refine afnp_in ty_ok Tryz.call56 Tryz.func56 rfl rfl (by decide +kernel) ?_
  have r1 := atB_a l hn hs k
  have hle := posM_le (lt := ltI) k l
  cases hf : fndM ltI k l
  · rw [hf] at r1
    have e : getM ltI k l = none := by unfold fndM at hf; simpa using hf
    rw [e]
    generalize posM ltI k l = p at *
    (try conv=>whnf)<;>repeat'((first|exact sNo|refine sT ?_|refine sF ?_|((first|refine sD ?_ ?_|refine sE ?_ ?_|refine sN ?_ ?_|refine sG ?_ ?_)<;>intro ht<;>(first|(cases ht;done)|skip))|refine wr ?_|refine ix ?_|refine ati ?_|refine row ?_|refine app ?_|refine dr ?_|refine VBs.own ?_|refine cf r1 ?_|refine cg r1 ?_|refine cz r1 ?_|fail)<;>(try conv=>whnf))
    all_goals rfl
  · rw [hf] at r1
    obtain ⟨hp, hk⟩ := (fnd_iff koI).1 hf
    rw [fnd_get hf hp]
    generalize posM ltI k l = p at *
    (try conv=>whnf)<;>repeat'((first|exact sNo|refine sT ?_|refine sF ?_|((first|refine sD ?_ ?_|refine sE ?_ ?_|refine sN ?_ ?_|refine sG ?_ ?_)<;>intro ht<;>(first|(cases ht;done)|skip))|refine wr ?_|refine ix ?_|refine ati ?_|refine row ?_|refine app ?_|refine dr ?_|refine VBs.own ?_|refine cf r1 ?_|refine cg r1 ?_|refine cz r1 ?_|fail)<;>(try conv=>whnf))
    all_goals rfl
theorem lenB_a (l : List (Int × Bun)) : AFnP Tryz.prog 58 [.agg [lstE prB l]] (i64 (l.length : Nat)) := by
  refine afnp_in ty_ok Tryz.call58 Tryz.func58 rfl rfl (by decide +kernel) ?_
  (try conv=>whnf)<;>repeat'((first|exact sNo|refine sT ?_|refine sF ?_|((first|refine sD ?_ ?_|refine sE ?_ ?_|refine sN ?_ ?_|refine sG ?_ ?_)<;>intro ht<;>(first|(cases ht;done)|skip))|refine wr ?_|refine ix ?_|refine ati ?_|refine row ?_|refine app ?_|refine dr ?_|refine VBs.own ?_|fail)<;>(try conv=>whnf))
  all_goals rfl
theorem allB_a (l : List (Int × Bun)) (hn : l.length ≤ 1000000) : AFnP Tryz.prog 62 [.agg [lstE prB l]] (lstE prB l) := by
  refine afnp_in ty_ok Tryz.call62 Tryz.func62 rfl rfl (by decide +kernel) ?_
  have r1 := cloneB_a l hn
  (try conv=>whnf)<;>repeat'((first|exact sNo|refine sT ?_|refine sF ?_|((first|refine sD ?_ ?_|refine sE ?_ ?_|refine sN ?_ ?_|refine sG ?_ ?_)<;>intro ht<;>(first|(cases ht;done)|skip))|refine wr ?_|refine ix ?_|refine ati ?_|refine row ?_|refine app ?_|refine dr ?_|refine VBs.own ?_|refine cf r1 ?_|refine cg r1 ?_|refine cz r1 ?_|fail)<;>(try conv=>whnf))
  all_goals rfl
end Go.Proofs.YtlghgdgpbnlpmaaGreat
