/- What is proved: chapter 07's law: ContextMember. Conditions: none. -/
import Derived.Test.YtklionofaknjcaaKm
namespace Go.Proofs.Ytklionofaknjcaa
open Go.RowKit
set_option linter.unusedVariables false
set_option linter.unusedSimpArgs false
set_option maxRecDepth 100000
set_option maxHeartbeats 16000000
attribute [local irreducible] byC fullC rightC
theorem lawMemberC_a (a b : List Spn) (x : Int × Int) : AFnP Try.prog 10 [lstE spE a, lstE spE b, .agg [i64 x.1, i64 x.2]] (.bool true) := by
  refine afnp_in ty_ok Try.call10 Try.func10 rfl rfl (by decide +kernel) ?_
  cases hs : [a, b].all okCtx
  · have h0 : AFnP Try.prog 34 [.lst 2 [[lstE spE a], [lstE spE b]]] (.bool false) := rights_a [a, b] (by simp) hs
    (try conv => whnf)<;>repeat' ((first|(refine VS.mk ?_;intro t ht;cases t<;>(first|replace ht := of_decide_eq_true ht|replace ht := of_decide_eq_false ht|replace ht := beq_iff_eq.1 ht|replace ht := beq_eq_false_iff_ne.1 ht|replace ht := bne_iff_ne.1 ht|replace ht := bne_eq_false_iff_eq.1 ht|skip)<;>(first|(exfalso;omega)|(cases ht;done)|exact absurd rfl ht|exact absurd (ht.symm.trans (by assumption : _ = false)) (by decide)|exact absurd (ht.symm.trans (by assumption : _ = true)) (by decide)|skip))|refine VWr.mk ⟨_,wrap_in ⟨by omega,by omega⟩,?_⟩|refine VIx.mk ⟨_,_,rfl,getE (by omega),rfl,?_⟩|refine VIx.mk ⟨_,_,by assumption,getE (by omega),rfl,?_⟩|refine VIx.mk ⟨Int.toNat _,_,(Int.toNat_of_nonneg (by omega)).symm,getE (by omega),rfl,?_⟩|refine VIx.mk ⟨_,_,rfl,by assumption,rfl,?_⟩|refine VIx.mk ⟨Int.toNat _,_,rfl,rfl,rfl,?_⟩|refine VIx.mk ⟨0,_,rfl,rfl,rfl,?_⟩|refine VIx.mk ⟨1,_,rfl,rfl,rfl,?_⟩|refine VIx.mk ⟨2,_,rfl,rfl,rfl,?_⟩|refine VIx.mk ⟨3,_,rfl,rfl,rfl,?_⟩|refine VAt.mk ⟨_,rfl,by omega,?_⟩|refine VAt.mk ⟨_,by assumption,by omega,?_⟩|refine VAt.mk ⟨0,rfl,by decide,?_⟩|refine VAt.mk ⟨1,rfl,by decide,?_⟩|refine VAt.mk ⟨2,rfl,by decide,?_⟩|refine VAt.mk ⟨3,rfl,by decide,?_⟩|refine VAt.mk ⟨Int.toNat _,rfl,by decide,?_⟩|refine VAt.mk ⟨Int.toNat _,(Int.toNat_of_nonneg (by omega)).symm,by omega,?_⟩|refine VRow.mk ⟨_,by assumption,?_⟩|refine VRow.mk ⟨_,getE (by omega),?_⟩|refine VRow.mk ⟨_,rfl,?_⟩|refine VApp.mk (by first|exact rok_lit rfl|exact rok_map (fun _ => ⟨rfl,rfl⟩)) (by omega) ?_|refine Or.inl (VDr.mk ⟨[],[],[],by decide +kernel,?_⟩)|(refine Or.inl (VSl.of ?_ ?_ ?_ ?_ (by first|exact len_map (fun _ => rfl)|exact len_lit rfl) ?_);· exact rfl;· exact rfl;· omega;· omega)|refine Or.inl (VSn.mk ⟨by first|rfl|omega,by first|rfl|omega,?_⟩)|refine Or.inr (VSo.mk ⟨_,rfl,rfl,by omega,?_⟩)|refine Or.inr (VSo.mk ⟨0,rfl,rfl,by omega,?_⟩)|refine VAz.mk ⟨_,rfl,by omega,by omega,?_⟩|refine VAz.mk ⟨Int.toNat _,(Int.toNat_of_nonneg (by omega)).symm,by omega,by omega,?_⟩|refine VCf.mk ⟨_,_,awakeC_a,rfl,?_⟩|refine Or.inl (VCf.mk ⟨_,_,awakeC_a,rfl,?_⟩)|refine Or.inr (Or.inl (VCz.of awakeC_a ?_))|refine VCf.mk ⟨_,_,h0,rfl,?_⟩|refine Or.inl (VCf.mk ⟨_,_,h0,rfl,?_⟩)|refine Or.inr (Or.inl (VCz.of h0 ?_))|fail)<;>(try conv => whnf))
  · have h0 : AFnP Try.prog 34 [.lst 2 [[lstE spE a], [lstE spE b]]] (.bool true) := rights_a [a, b] (by simp) hs
    simp only [List.all_cons, List.all_nil, Bool.and_true, Bool.and_eq_true, okCtx_iff] at hs
    obtain ⟨⟨hal, ha⟩, hbl, hb⟩ := hs
    have iu := unC_is ha hb
    have im := meC_is ha hb
    have id := miC_is ha hb
    have lu := iu.2.2
    have lm := im.2.2
    have ld := minus_40 ha hb hal hbl
    have hmm : a.length * (b.length + 1) ≤ 40 * 41 := Nat.mul_le_mul hal (by omega)
    have r1 := unionC_p ha hb (by omega) (by omega)
    have r2 := meetC_p ha hb (by omega) (by omega)
    have r3 := minusC_p ha hb (by omega) (by omega) (by omega)
    have ku : hasC (byC unL a b) x = (hasC a x || hasC b x) := by rw [Bool.eq_iff_iff, Bool.or_eq_true, hasC_iff iu.1, hasC_iff ha, hasC_iff hb]; exact iu.2.1 _ _
    have km : hasC (byC meetL a b) x = (hasC a x && hasC b x) := by rw [Bool.eq_iff_iff, Bool.and_eq_true, hasC_iff im.1, hasC_iff ha, hasC_iff hb]; exact im.2.1 _ _
    have kd : hasC (byC minusL a b) x = (hasC a x && !hasC b x) := by rw [Bool.eq_iff_iff, Bool.and_eq_true, Bool.not_eq_true', ← Bool.not_eq_true, hasC_iff id.1, hasC_iff ha, hasC_iff hb]; exact id.2.1 _ _
    have g1 : ∀ t, hasC a x = t → AFnP Try.prog 18 [lstE spE a, .agg [i64 x.1, i64 x.2]] (.bool t) := fun t ht => chas_p (by omega) x ht
    have g2 : ∀ t, hasC b x = t → AFnP Try.prog 18 [lstE spE b, .agg [i64 x.1, i64 x.2]] (.bool t) := fun t ht => chas_p (by omega) x ht
    have g3 : ∀ t, hasC (byC unL a b) x = t → AFnP Try.prog 18 [lstE spE (byC unL a b), .agg [i64 x.1, i64 x.2]] (.bool t) := fun t ht => chas_p (by omega) x ht
    have g4 : ∀ t, hasC (byC meetL a b) x = t → AFnP Try.prog 18 [lstE spE (byC meetL a b), .agg [i64 x.1, i64 x.2]] (.bool t) := fun t ht => chas_p (by omega) x ht
    have g5 : ∀ t, hasC (byC minusL a b) x = t → AFnP Try.prog 18 [lstE spE (byC minusL a b), .agg [i64 x.1, i64 x.2]] (.bool t) := fun t ht => chas_p (by omega) x ht
    clear iu im id
    generalize byC unL a b = U at *
    generalize byC meetL a b = M at *
    generalize byC minusL a b = D at *
    cases hp : hasC a x <;> cases hq : hasC b x
    all_goals
      rw [hp, hq] at ku km kd
      have g1 := g1 _ hp
      have g2 := g2 _ hq
      have g3 := g3 _ ku
      have g4 := g4 _ km
      have g5 := g5 _ kd
      clear ku km kd hp hq
      simp only [Bool.true_or, Bool.or_true, Bool.or_false, Bool.and_true, Bool.and_false, Bool.true_and, Bool.false_and, Bool.not_true, Bool.not_false] at g3 g4 g5
      (try conv => whnf)<;>repeat' ((first|refine Or.inr ⟨by decide +kernel,?_⟩|(refine VS.mk ?_;intro t ht;cases t<;>(first|replace ht := of_decide_eq_true ht|replace ht := of_decide_eq_false ht|replace ht := beq_iff_eq.1 ht|replace ht := beq_eq_false_iff_ne.1 ht|replace ht := bne_iff_ne.1 ht|replace ht := bne_eq_false_iff_eq.1 ht|skip)<;>(first|(exfalso;omega)|(cases ht;done)|exact absurd rfl ht|exact absurd (ht.symm.trans (by assumption : _ = false)) (by decide)|exact absurd (ht.symm.trans (by assumption : _ = true)) (by decide)|skip))|refine VWr.mk ⟨_,wrap_in ⟨by omega,by omega⟩,?_⟩|refine VIx.mk ⟨_,_,rfl,getE (by omega),rfl,?_⟩|refine VIx.mk ⟨_,_,by assumption,getE (by omega),rfl,?_⟩|refine VIx.mk ⟨Int.toNat _,_,(Int.toNat_of_nonneg (by omega)).symm,getE (by omega),rfl,?_⟩|refine VIx.mk ⟨_,_,rfl,by assumption,rfl,?_⟩|refine VIx.mk ⟨Int.toNat _,_,rfl,rfl,rfl,?_⟩|refine VIx.mk ⟨0,_,rfl,rfl,rfl,?_⟩|refine VIx.mk ⟨1,_,rfl,rfl,rfl,?_⟩|refine VIx.mk ⟨2,_,rfl,rfl,rfl,?_⟩|refine VIx.mk ⟨3,_,rfl,rfl,rfl,?_⟩|refine VAt.mk ⟨_,rfl,by omega,?_⟩|refine VAt.mk ⟨_,by assumption,by omega,?_⟩|refine VAt.mk ⟨0,rfl,by decide,?_⟩|refine VAt.mk ⟨1,rfl,by decide,?_⟩|refine VAt.mk ⟨2,rfl,by decide,?_⟩|refine VAt.mk ⟨3,rfl,by decide,?_⟩|refine VAt.mk ⟨Int.toNat _,rfl,by decide,?_⟩|refine VAt.mk ⟨Int.toNat _,(Int.toNat_of_nonneg (by omega)).symm,by omega,?_⟩|refine VRow.mk ⟨_,by assumption,?_⟩|refine VRow.mk ⟨_,getE (by omega),?_⟩|refine VRow.mk ⟨_,rfl,?_⟩|refine VApp.mk (by first|exact rok_lit rfl|exact rok_map (fun _ => ⟨rfl,rfl⟩)) (by omega) ?_|refine Or.inl (VDr.mk ⟨[],[],[],by decide +kernel,?_⟩)|(refine Or.inl (VSl.of ?_ ?_ ?_ ?_ (by first|exact len_map (fun _ => rfl)|exact len_lit rfl) ?_);· exact rfl;· exact rfl;· omega;· omega)|refine Or.inl (VSn.mk ⟨by first|rfl|omega,by first|rfl|omega,?_⟩)|refine Or.inr (VSo.mk ⟨_,rfl,rfl,by omega,?_⟩)|refine Or.inr (VSo.mk ⟨0,rfl,rfl,by omega,?_⟩)|refine VAz.mk ⟨_,rfl,by omega,by omega,?_⟩|refine VAz.mk ⟨Int.toNat _,(Int.toNat_of_nonneg (by omega)).symm,by omega,by omega,?_⟩|refine Or.inr (VCp.mk ⟨_,awakeC_a,?_⟩)|refine VCf.mk ⟨_,_,awakeC_a,rfl,?_⟩|refine Or.inl (VCf.mk ⟨_,_,awakeC_a,rfl,?_⟩)|refine Or.inr (Or.inl (VCz.of awakeC_a ?_))|refine Or.inr (VCp.mk ⟨_,h0,?_⟩)|refine VCf.mk ⟨_,_,h0,rfl,?_⟩|refine Or.inl (VCf.mk ⟨_,_,h0,rfl,?_⟩)|refine Or.inr (Or.inl (VCz.of h0 ?_))|refine Or.inr (VCp.mk ⟨_,r1,?_⟩)|refine VCf.mk ⟨_,_,r1,rfl,?_⟩|refine Or.inl (VCf.mk ⟨_,_,r1,rfl,?_⟩)|refine Or.inr (Or.inl (VCz.of r1 ?_))|refine Or.inr (VCp.mk ⟨_,r2,?_⟩)|refine VCf.mk ⟨_,_,r2,rfl,?_⟩|refine Or.inl (VCf.mk ⟨_,_,r2,rfl,?_⟩)|refine Or.inr (Or.inl (VCz.of r2 ?_))|refine Or.inr (VCp.mk ⟨_,r3,?_⟩)|refine VCf.mk ⟨_,_,r3,rfl,?_⟩|refine Or.inl (VCf.mk ⟨_,_,r3,rfl,?_⟩)|refine Or.inr (Or.inl (VCz.of r3 ?_))|refine Or.inr (VCp.mk ⟨_,g1,?_⟩)|refine VCf.mk ⟨_,_,g1,rfl,?_⟩|refine Or.inl (VCf.mk ⟨_,_,g1,rfl,?_⟩)|refine Or.inr (Or.inl (VCz.of g1 ?_))|refine Or.inr (VCp.mk ⟨_,g2,?_⟩)|refine VCf.mk ⟨_,_,g2,rfl,?_⟩|refine Or.inl (VCf.mk ⟨_,_,g2,rfl,?_⟩)|refine Or.inr (Or.inl (VCz.of g2 ?_))|refine Or.inr (VCp.mk ⟨_,g3,?_⟩)|refine VCf.mk ⟨_,_,g3,rfl,?_⟩|refine Or.inl (VCf.mk ⟨_,_,g3,rfl,?_⟩)|refine Or.inr (Or.inl (VCz.of g3 ?_))|refine Or.inr (VCp.mk ⟨_,g4,?_⟩)|refine VCf.mk ⟨_,_,g4,rfl,?_⟩|refine Or.inl (VCf.mk ⟨_,_,g4,rfl,?_⟩)|refine Or.inr (Or.inl (VCz.of g4 ?_))|refine Or.inr (VCp.mk ⟨_,g5,?_⟩)|refine VCf.mk ⟨_,_,g5,rfl,?_⟩|refine Or.inl (VCf.mk ⟨_,_,g5,rfl,?_⟩)|refine Or.inr (Or.inl (VCz.of g5 ?_))|fail)<;>(try conv => whnf))
      all_goals simp at ht
end Go.Proofs.Ytklionofaknjcaa
