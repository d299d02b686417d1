/- What is proved: what Of of package span answers. Conditions: none. -/
import Derived.Test.YtklionofaknjcaaSo
namespace Go.Proofs.Ytklionofaknjcaa
open Go.RowKit
set_option linter.unusedVariables false
set_option linter.unusedSimpArgs false
set_option maxRecDepth 100000
set_option maxHeartbeats 8000000
/-- the set of numbers that may be -/
def IsOf (l : List Int) (out : List (Int × Int)) : Prop := RightP out ∧ ∀ y, hasL out y ↔ y ∈ l
structure OfA (l : List Int) (r : AV) : Prop where
  ex : (l.all okNum = true ∧ ∃ out, IsOf l out ∧ out.length ≤ l.length ∧ r = .tup [lstE runE out, i64 0]) ∨ (l.all okNum = false ∧ r = .tup [.lst 0 [], i64 1])
theorem hasL_ones {d : List (Int × Int)} {l : List Int} (h : d.Perm (l.map one)) {y : Int} : hasL d y ↔ y ∈ l := by
  constructor
  · rintro ⟨x, hx, h1, h2⟩
    obtain ⟨z, hz, rfl⟩ := List.mem_map.1 (h.mem_iff.1 hx)
    simp only [one] at h1 h2
    have : y = z := by omega
    rw [this]; exact hz
  · intro hy
    exact ⟨one y, h.mem_iff.2 (List.mem_map_of_mem hy), Int.le_refl _, Int.le_refl _⟩
theorem of_join {d : List (Int × Int)} {l : List Int} (h : d.Perm (l.map one)) (hs : d.Pairwise (fun x y => x.1 ≤ y.1)) (hok : ∀ x ∈ l, okNum x = true) : IsOf l (d.foldl joinStep []) := by
  have hd : ∀ x ∈ d, okP x := fun x hx => by
    obtain ⟨z, hz, rfl⟩ := List.mem_map.1 (h.mem_iff.1 hx)
    have := hok z hz
    simp only [okNum, Bool.and_eq_true, decide_eq_true_eq] at this
    exact ⟨this.1, Int.le_refl _, this.2⟩
  have := join_spec d [] ⟨by simp, List.Pairwise.nil⟩ hd hs (by simp)
  exact ⟨this.1, fun y => by rw [this.2 y, hasL_ones h]; simp [not_hasL_nil]⟩
theorem of_a (l : List Int) (hn : l.length ≤ 1000000) : AFnR Try.prog 42 [lstE intE l] (OfA l) := by
  refine afnr_in ty_ok Try.call42 Try.func42 rfl rfl (by decide +kernel) ?_
  (try conv => whnf)<;>repeat' ((first|(refine VS.mk ?_;intro t ht;cases t<;>(first|replace ht := of_decide_eq_true ht|replace ht := of_decide_eq_false ht|replace ht := beq_iff_eq.1 ht|replace ht := beq_eq_false_iff_ne.1 ht|replace ht := bne_iff_ne.1 ht|replace ht := bne_eq_false_iff_eq.1 ht|skip)<;>(first|(exfalso;omega)|(cases ht;done)|exact absurd rfl ht|exact absurd (ht.symm.trans (by assumption : _ = false)) (by decide)|exact absurd (ht.symm.trans (by assumption : _ = true)) (by decide)|skip))|refine VWr.mk ⟨_,wrap_in ⟨by omega,by omega⟩,?_⟩|refine VIx.mk ⟨_,_,rfl,getE (by omega),rfl,?_⟩|refine VIx.mk ⟨_,_,by assumption,getE (by omega),rfl,?_⟩|refine VIx.mk ⟨Int.toNat _,_,(Int.toNat_of_nonneg (by omega)).symm,getE (by omega),rfl,?_⟩|refine VIx.mk ⟨_,_,rfl,by assumption,rfl,?_⟩|refine VIx.mk ⟨Int.toNat _,_,rfl,rfl,rfl,?_⟩|refine VIx.mk ⟨0,_,rfl,rfl,rfl,?_⟩|refine VIx.mk ⟨1,_,rfl,rfl,rfl,?_⟩|refine VIx.mk ⟨2,_,rfl,rfl,rfl,?_⟩|refine VIx.mk ⟨3,_,rfl,rfl,rfl,?_⟩|refine VAt.mk ⟨_,rfl,by omega,?_⟩|refine VAt.mk ⟨_,by assumption,by omega,?_⟩|refine VAt.mk ⟨0,rfl,by decide,?_⟩|refine VAt.mk ⟨1,rfl,by decide,?_⟩|refine VAt.mk ⟨2,rfl,by decide,?_⟩|refine VAt.mk ⟨3,rfl,by decide,?_⟩|refine VAt.mk ⟨Int.toNat _,rfl,by decide,?_⟩|refine VAt.mk ⟨Int.toNat _,(Int.toNat_of_nonneg (by omega)).symm,by omega,?_⟩|refine VRow.mk ⟨_,by assumption,?_⟩|refine VRow.mk ⟨_,getE (by omega),?_⟩|refine VRow.mk ⟨_,rfl,?_⟩|refine VApp.mk (by first|exact rok_lit rfl|exact rok_map (fun _ => ⟨rfl,rfl⟩)) (by omega) ?_|refine Or.inl (VDr.mk ⟨[],[],[],by decide +kernel,?_⟩)|(refine Or.inl (VSl.of ?_ ?_ ?_ ?_ (by first|exact len_map (fun _ => rfl)|exact len_lit rfl) ?_);· exact rfl;· exact rfl;· omega;· omega)|refine Or.inl (VSn.mk ⟨by first|rfl|omega,by first|rfl|omega,?_⟩)|refine Or.inr (VSo.mk ⟨_,rfl,rfl,by omega,?_⟩)|refine Or.inr (VSo.mk ⟨0,rfl,rfl,by omega,?_⟩)|refine VAz.mk ⟨_,rfl,by omega,by omega,?_⟩|refine VAz.mk ⟨Int.toNat _,(Int.toNat_of_nonneg (by omega)).symm,by omega,by omega,?_⟩|fail)<;>(try conv => whnf))
  refine VLp.mk ⟨[.slot 4 74 2], [], [4, 9], fun k vs h => ∃ i : Nat, vs = [.own 0 i, i64 i] ∧ h = [.row 0 74 2 (((l.take i).map one).map runE)] ∧ i ≤ l.length ∧ k = l.length - i ∧ ∀ x ∈ l.take i, okNum x = true, l.length, ?_⟩
  conv => whnf
  refine ⟨⟨0, rfl, rfl, by omega, by omega, by simp⟩, ?_⟩
  rintro k vs h ⟨i, rfl, rfl, hi, rfl, hg⟩
  by_cases hin : i < l.length
  · (try conv => whnf)<;>repeat' ((first|(refine VS.mk ?_;intro t ht;cases t<;>(first|replace ht := of_decide_eq_true ht|replace ht := of_decide_eq_false ht|replace ht := beq_iff_eq.1 ht|replace ht := beq_eq_false_iff_ne.1 ht|replace ht := bne_iff_ne.1 ht|replace ht := bne_eq_false_iff_eq.1 ht|skip)<;>(first|(exfalso;omega)|(cases ht;done)|exact absurd rfl ht|exact absurd (ht.symm.trans (by assumption : _ = false)) (by decide)|exact absurd (ht.symm.trans (by assumption : _ = true)) (by decide)|skip))|refine VWr.mk ⟨_,wrap_in ⟨by omega,by omega⟩,?_⟩|refine VIx.mk ⟨_,_,rfl,getE (by omega),rfl,?_⟩|refine VIx.mk ⟨_,_,by assumption,getE (by omega),rfl,?_⟩|refine VIx.mk ⟨Int.toNat _,_,(Int.toNat_of_nonneg (by omega)).symm,getE (by omega),rfl,?_⟩|refine VIx.mk ⟨_,_,rfl,by assumption,rfl,?_⟩|refine VIx.mk ⟨Int.toNat _,_,rfl,rfl,rfl,?_⟩|refine VIx.mk ⟨0,_,rfl,rfl,rfl,?_⟩|refine VIx.mk ⟨1,_,rfl,rfl,rfl,?_⟩|refine VIx.mk ⟨2,_,rfl,rfl,rfl,?_⟩|refine VIx.mk ⟨3,_,rfl,rfl,rfl,?_⟩|refine VAt.mk ⟨_,rfl,by omega,?_⟩|refine VAt.mk ⟨_,by assumption,by omega,?_⟩|refine VAt.mk ⟨0,rfl,by decide,?_⟩|refine VAt.mk ⟨1,rfl,by decide,?_⟩|refine VAt.mk ⟨2,rfl,by decide,?_⟩|refine VAt.mk ⟨3,rfl,by decide,?_⟩|refine VAt.mk ⟨Int.toNat _,rfl,by decide,?_⟩|refine VAt.mk ⟨Int.toNat _,(Int.toNat_of_nonneg (by omega)).symm,by omega,?_⟩|refine VRow.mk ⟨_,by assumption,?_⟩|refine VRow.mk ⟨_,getE (by omega),?_⟩|refine VRow.mk ⟨_,rfl,?_⟩|refine VApp.mk (by first|exact rok_lit rfl|exact rok_map (fun _ => ⟨rfl,rfl⟩)) (by omega) ?_|refine Or.inl (VDr.mk ⟨[],[],[],by decide +kernel,?_⟩)|(refine Or.inl (VSl.of ?_ ?_ ?_ ?_ (by first|exact len_map (fun _ => rfl)|exact len_lit rfl) ?_);· exact rfl;· exact rfl;· omega;· omega)|refine Or.inl (VSn.mk ⟨by first|rfl|omega,by first|rfl|omega,?_⟩)|refine Or.inr (VSo.mk ⟨_,rfl,rfl,by omega,?_⟩)|refine Or.inr (VSo.mk ⟨0,rfl,rfl,by omega,?_⟩)|refine VAz.mk ⟨_,rfl,by omega,by omega,?_⟩|refine VAz.mk ⟨Int.toNat _,(Int.toNat_of_nonneg (by omega)).symm,by omega,by omega,?_⟩|refine VCf.mk ⟨_,_,number_a _,rfl,?_⟩|refine Or.inl (VCf.mk ⟨_,_,number_a _,rfl,?_⟩)|refine Or.inr (Or.inl (VCz.of (number_a _) ?_))|fail)<;>(try conv => whnf))
    · refine ⟨.inr ⟨?_, rfl⟩⟩
      rw [List.all_eq_false]
      exact ⟨l[i], List.getElem_mem _, by unfold okNum; rw [ht]; decide⟩
    · refine VRd.mk rfl ⟨l.length - (i + 1), by omega, i + 1, rfl, ?_, by omega, rfl, fun x hx => ?_⟩
      · rw [← take_snoc hin, List.map_append, List.map_append]; rfl
      · rw [← take_snoc hin] at hx
        rcases List.mem_append.1 hx with h | h
        · exact hg x h
        · rw [List.mem_singleton.1 h]; exact ht
  · obtain rfl : i = l.length := by omega
    rw [List.take_length] at hg ⊢
    have hlen : (l.map one).length = l.length := List.length_map ..
    rw [← hlen]
    (try conv => whnf)<;>repeat' ((first|(refine VS.mk ?_;intro t ht;cases t<;>(first|replace ht := of_decide_eq_true ht|replace ht := of_decide_eq_false ht|replace ht := beq_iff_eq.1 ht|replace ht := beq_eq_false_iff_ne.1 ht|replace ht := bne_iff_ne.1 ht|replace ht := bne_eq_false_iff_eq.1 ht|skip)<;>(first|(exfalso;omega)|(cases ht;done)|exact absurd rfl ht|exact absurd (ht.symm.trans (by assumption : _ = false)) (by decide)|exact absurd (ht.symm.trans (by assumption : _ = true)) (by decide)|skip))|refine VWr.mk ⟨_,wrap_in ⟨by omega,by omega⟩,?_⟩|refine VIx.mk ⟨_,_,rfl,getE (by omega),rfl,?_⟩|refine VIx.mk ⟨_,_,by assumption,getE (by omega),rfl,?_⟩|refine VIx.mk ⟨Int.toNat _,_,(Int.toNat_of_nonneg (by omega)).symm,getE (by omega),rfl,?_⟩|refine VIx.mk ⟨_,_,rfl,by assumption,rfl,?_⟩|refine VIx.mk ⟨Int.toNat _,_,rfl,rfl,rfl,?_⟩|refine VIx.mk ⟨0,_,rfl,rfl,rfl,?_⟩|refine VIx.mk ⟨1,_,rfl,rfl,rfl,?_⟩|refine VIx.mk ⟨2,_,rfl,rfl,rfl,?_⟩|refine VIx.mk ⟨3,_,rfl,rfl,rfl,?_⟩|refine VAt.mk ⟨_,rfl,by omega,?_⟩|refine VAt.mk ⟨_,by assumption,by omega,?_⟩|refine VAt.mk ⟨0,rfl,by decide,?_⟩|refine VAt.mk ⟨1,rfl,by decide,?_⟩|refine VAt.mk ⟨2,rfl,by decide,?_⟩|refine VAt.mk ⟨3,rfl,by decide,?_⟩|refine VAt.mk ⟨Int.toNat _,rfl,by decide,?_⟩|refine VAt.mk ⟨Int.toNat _,(Int.toNat_of_nonneg (by omega)).symm,by omega,?_⟩|refine VRow.mk ⟨_,by assumption,?_⟩|refine VRow.mk ⟨_,getE (by omega),?_⟩|refine VRow.mk ⟨_,rfl,?_⟩|refine VApp.mk (by first|exact rok_lit rfl|exact rok_map (fun _ => ⟨rfl,rfl⟩)) (by omega) ?_|refine Or.inl (VDr.mk ⟨[],[],[],by decide +kernel,?_⟩)|(refine Or.inl (VSl.of ?_ ?_ ?_ ?_ (by first|exact len_map (fun _ => rfl)|exact len_lit rfl) ?_);· exact rfl;· exact rfl;· omega;· omega)|refine Or.inl (VSn.mk ⟨by first|rfl|omega,by first|rfl|omega,?_⟩)|refine Or.inr (VSo.mk ⟨_,rfl,rfl,by omega,?_⟩)|refine Or.inr (VSo.mk ⟨0,rfl,rfl,by omega,?_⟩)|refine VAz.mk ⟨_,rfl,by omega,by omega,?_⟩|refine VAz.mk ⟨Int.toNat _,(Int.toNat_of_nonneg (by omega)).symm,by omega,by omega,?_⟩|(refine Or.inr (Or.inr ⟨⟨_,sort_a Try.call61 closureOf (l.map one) (by omega),rfl,?_⟩⟩);rintro r h' ⟨rfl,d',hp,hs,rfl⟩;rw [← hp.length_eq])|fail)<;>(try conv => whnf))
    have h1 : d'.length ≤ 1000000 := by rw [hp.length_eq]; omega
    have hall : l.all okNum = true := List.all_eq_true.2 hg
    have hof := of_join hp hs hg
    have hlo := joinStep_len d' []
    have h2 : ∀ x ∈ d', x.2 ≤ 1099511627776 ∧ -1099511627776 ≤ x.2 := fun x hx => by
      obtain ⟨z, hz, rfl⟩ := List.mem_map.1 (hp.mem_iff.1 hx)
      have := hg z hz
      simp only [okNum, Bool.and_eq_true, decide_eq_true_eq] at this
      simp only [one]; omega
    (try conv => whnf)<;>repeat' ((first|(refine VS.mk ?_;intro t ht;cases t<;>(first|replace ht := of_decide_eq_true ht|replace ht := of_decide_eq_false ht|replace ht := beq_iff_eq.1 ht|replace ht := beq_eq_false_iff_ne.1 ht|replace ht := bne_iff_ne.1 ht|replace ht := bne_eq_false_iff_eq.1 ht|skip)<;>(first|(exfalso;omega)|(cases ht;done)|exact absurd rfl ht|exact absurd (ht.symm.trans (by assumption : _ = false)) (by decide)|exact absurd (ht.symm.trans (by assumption : _ = true)) (by decide)|skip))|refine VWr.mk ⟨_,wrap_in ⟨by omega,by omega⟩,?_⟩|refine VIx.mk ⟨_,_,rfl,getE (by omega),rfl,?_⟩|refine VIx.mk ⟨_,_,by assumption,getE (by omega),rfl,?_⟩|refine VIx.mk ⟨Int.toNat _,_,(Int.toNat_of_nonneg (by omega)).symm,getE (by omega),rfl,?_⟩|refine VIx.mk ⟨_,_,rfl,by assumption,rfl,?_⟩|refine VIx.mk ⟨Int.toNat _,_,rfl,rfl,rfl,?_⟩|refine VIx.mk ⟨0,_,rfl,rfl,rfl,?_⟩|refine VIx.mk ⟨1,_,rfl,rfl,rfl,?_⟩|refine VIx.mk ⟨2,_,rfl,rfl,rfl,?_⟩|refine VIx.mk ⟨3,_,rfl,rfl,rfl,?_⟩|refine VAt.mk ⟨_,rfl,by omega,?_⟩|refine VAt.mk ⟨_,by assumption,by omega,?_⟩|refine VAt.mk ⟨0,rfl,by decide,?_⟩|refine VAt.mk ⟨1,rfl,by decide,?_⟩|refine VAt.mk ⟨2,rfl,by decide,?_⟩|refine VAt.mk ⟨3,rfl,by decide,?_⟩|refine VAt.mk ⟨Int.toNat _,rfl,by decide,?_⟩|refine VAt.mk ⟨Int.toNat _,(Int.toNat_of_nonneg (by omega)).symm,by omega,?_⟩|refine VRow.mk ⟨_,by assumption,?_⟩|refine VRow.mk ⟨_,getE (by omega),?_⟩|refine VRow.mk ⟨_,rfl,?_⟩|refine VApp.mk (by first|exact rok_lit rfl|exact rok_map (fun _ => ⟨rfl,rfl⟩)) (by omega) ?_|refine Or.inl (VDr.mk ⟨[],[],[],by decide +kernel,?_⟩)|(refine Or.inl (VSl.of ?_ ?_ ?_ ?_ (by first|exact len_map (fun _ => rfl)|exact len_lit rfl) ?_);· exact rfl;· exact rfl;· omega;· omega)|refine Or.inl (VSn.mk ⟨by first|rfl|omega,by first|rfl|omega,?_⟩)|refine Or.inr (VSo.mk ⟨_,rfl,rfl,by omega,?_⟩)|refine Or.inr (VSo.mk ⟨0,rfl,rfl,by omega,?_⟩)|refine VAz.mk ⟨_,rfl,by omega,by omega,?_⟩|refine VAz.mk ⟨Int.toNat _,(Int.toNat_of_nonneg (by omega)).symm,by omega,by omega,?_⟩|refine VCf.mk ⟨_,_,joined_a d' h1 h2,rfl,?_⟩|refine Or.inl (VCf.mk ⟨_,_,joined_a d' h1 h2,rfl,?_⟩)|refine Or.inr (Or.inl (VCz.of (joined_a d' h1 h2) ?_))|fail)<;>(try conv => whnf))
    exact ⟨.inl ⟨hall, _, hof, by simp only [List.length_nil] at hlo; rw [hp.length_eq, hlen] at hlo; omega, rfl⟩⟩
end Go.Proofs.Ytklionofaknjcaa
