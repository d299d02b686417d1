/- What is proved: chapter 07's law: ContextAlgebra. Conditions: none. -/
import Derived.Test.YtklionofaknjcaaKm
namespace Go.Proofs.Ytklionofaknjcaa
open Go.RowKit
set_option linter.unusedVariables false
set_option linter.unusedSimpArgs false
set_option maxRecDepth 100000
set_option maxHeartbeats 16000000
attribute [local irreducible] byC fullC rightC
theorem lawAlgebraC_a (a b c : List Spn) : AFnP Try.prog 9 [lstE spE a, lstE spE b, lstE spE c] (.bool true) := by
  refine afnp_in ty_ok Try.call9 Try.func9 rfl rfl (by decide +kernel) ?_
  cases hs : [a, b, c].all okCtx
  · have h0 : AFnP Try.prog 34 [.lst 3 [[lstE spE a], [lstE spE b], [lstE spE c]]] (.bool false) := rights_a [a, b, c] (by simp) hs
    (try conv => whnf)<;>repeat' ((first|(refine VS.mk ?_;intro t ht;cases t<;>(first|replace ht := of_decide_eq_true ht|replace ht := of_decide_eq_false ht|replace ht := beq_iff_eq.1 ht|replace ht := beq_eq_false_iff_ne.1 ht|replace ht := bne_iff_ne.1 ht|replace ht := bne_eq_false_iff_eq.1 ht|skip)<;>(first|(exfalso;omega)|(cases ht;done)|exact absurd rfl ht|exact absurd (ht.symm.trans (by assumption : _ = false)) (by decide)|exact absurd (ht.symm.trans (by assumption : _ = true)) (by decide)|skip))|refine VWr.mk ⟨_,wrap_in ⟨by omega,by omega⟩,?_⟩|refine VIx.mk ⟨_,_,rfl,getE (by omega),rfl,?_⟩|refine VIx.mk ⟨_,_,by assumption,getE (by omega),rfl,?_⟩|refine VIx.mk ⟨Int.toNat _,_,(Int.toNat_of_nonneg (by omega)).symm,getE (by omega),rfl,?_⟩|refine VIx.mk ⟨_,_,rfl,by assumption,rfl,?_⟩|refine VIx.mk ⟨Int.toNat _,_,rfl,rfl,rfl,?_⟩|refine VIx.mk ⟨0,_,rfl,rfl,rfl,?_⟩|refine VIx.mk ⟨1,_,rfl,rfl,rfl,?_⟩|refine VIx.mk ⟨2,_,rfl,rfl,rfl,?_⟩|refine VIx.mk ⟨3,_,rfl,rfl,rfl,?_⟩|refine VAt.mk ⟨_,rfl,by omega,?_⟩|refine VAt.mk ⟨_,by assumption,by omega,?_⟩|refine VAt.mk ⟨0,rfl,by decide,?_⟩|refine VAt.mk ⟨1,rfl,by decide,?_⟩|refine VAt.mk ⟨2,rfl,by decide,?_⟩|refine VAt.mk ⟨3,rfl,by decide,?_⟩|refine VAt.mk ⟨Int.toNat _,rfl,by decide,?_⟩|refine VAt.mk ⟨Int.toNat _,(Int.toNat_of_nonneg (by omega)).symm,by omega,?_⟩|refine VRow.mk ⟨_,by assumption,?_⟩|refine VRow.mk ⟨_,getE (by omega),?_⟩|refine VRow.mk ⟨_,rfl,?_⟩|refine VApp.mk (by first|exact rok_lit rfl|exact rok_map (fun _ => ⟨rfl,rfl⟩)) (by omega) ?_|refine VDr.mk ⟨[],[],[],by decide +kernel,?_⟩|(refine Or.inl (VSl.of ?_ ?_ ?_ ?_ (by first|exact len_map (fun _ => rfl)|exact len_lit rfl) ?_);· exact rfl;· exact rfl;· omega;· omega)|refine Or.inl (VSn.mk ⟨by first|rfl|omega,by first|rfl|omega,?_⟩)|refine Or.inr (VSo.mk ⟨_,rfl,rfl,by omega,?_⟩)|refine Or.inr (VSo.mk ⟨0,rfl,rfl,by omega,?_⟩)|refine VAz.mk ⟨_,rfl,by omega,by omega,?_⟩|refine VAz.mk ⟨Int.toNat _,(Int.toNat_of_nonneg (by omega)).symm,by omega,by omega,?_⟩|refine VCf.mk ⟨_,_,awakeC_a,rfl,?_⟩|refine Or.inl (VCf.mk ⟨_,_,awakeC_a,rfl,?_⟩)|refine Or.inr (Or.inl (VCz.of awakeC_a ?_))|refine VCf.mk ⟨_,_,h0,rfl,?_⟩|refine Or.inl (VCf.mk ⟨_,_,h0,rfl,?_⟩)|refine Or.inr (Or.inl (VCz.of h0 ?_))|fail)<;>(try conv => whnf))
  · have h0 : AFnP Try.prog 34 [.lst 3 [[lstE spE a], [lstE spE b], [lstE spE c]]] (.bool true) := rights_a [a, b, c] (by simp) hs
    simp only [List.all_cons, List.all_nil, Bool.and_true, Bool.and_eq_true, okCtx_iff] at hs
    obtain ⟨⟨hal, ha⟩, ⟨hbl, hb⟩, hcl, hc⟩ := hs
    have iU := unC_is ha hb
    have iW1 := unC_is iU.1 hc
    have iW2 := unC_is hc hb
    have iW3 := unC_is iW2.1 ha
    have iV := unC_is hb hc
    have iM1 := meC_is ha iV.1
    have iM2 := meC_is ha hb
    have iM3 := meC_is ha hc
    have iX := unC_is iM2.1 iM3.1
    have iD1 := miC_is ha hb
    have iD2 := miC_is ha iD1.1
    have lD1 := minus_40 ha hb hal hbl
    have lU := iU.2.2
    have lW1 := iW1.2.2
    have lW2 := iW2.2.2
    have lW3 := iW3.2.2
    have lV := iV.2.2
    have lM1 := iM1.2.2
    have lM2 := iM2.2.2
    have lM3 := iM3.2.2
    have lX := iX.2.2
    have e1 : byC unL (byC unL a b) c = byC unL (byC unL c b) a := ext_has iW1.1 iW3.1 fun d y => by
      rw [iW1.2.1, iU.2.1, iW3.2.1, iW2.2.1]
      exact ⟨fun h => by rcases h with (h | h) | h; exact .inr h; exact .inl (.inr h); exact .inl (.inl h), fun h => by rcases h with (h | h) | h; exact .inr h; exact .inl (.inr h); exact .inl (.inl h)⟩
    have e2 : byC meetL a (byC unL b c) = byC unL (byC meetL a b) (byC meetL a c) := ext_has iM1.1 iX.1 fun d y => by
      rw [iM1.2.1, iV.2.1, iX.2.1, iM2.2.1, iM3.2.1]
      exact ⟨fun ⟨h, k⟩ => by rcases k with k | k; exact .inl ⟨h, k⟩; exact .inr ⟨h, k⟩, fun h => by rcases h with ⟨h, k⟩ | ⟨h, k⟩; exact ⟨h, .inl k⟩; exact ⟨h, .inr k⟩⟩
    have e3 : byC minusL a (byC minusL a b) = byC meetL a b := ext_has iD2.1 iM2.1 fun d y => by
      rw [iD2.2.1, iD1.2.1, iM2.2.1]
      exact ⟨fun ⟨h, k⟩ => ⟨h, Classical.byContradiction fun k2 => k ⟨h, k2⟩⟩, fun ⟨h, k⟩ => ⟨h, fun k2 => k2.2 k⟩⟩
    have m1 : a.length * ((byC unL a b).length + 1) ≤ 40 * 81 := Nat.mul_le_mul hal (by omega)
    have m2 : b.length * ((byC unL a b).length + 1) ≤ 40 * 81 := Nat.mul_le_mul hbl (by omega)
    have m3 : a.length * (c.length + 1) ≤ 40 * 41 := Nat.mul_le_mul hal (by omega)
    have m4 : b.length * (c.length + 1) ≤ 40 * 41 := Nat.mul_le_mul hbl (by omega)
    have m5 : (byC unL a b).length * (c.length + 1) ≤ 80 * 41 := Nat.mul_le_mul (by omega) (by omega)
    have m6 : a.length * (b.length + 1) ≤ 40 * 41 := Nat.mul_le_mul hal (by omega)
    have m7 : a.length * ((byC minusL a b).length + 1) ≤ 40 * 1641 := Nat.mul_le_mul hal (by omega)
    have lD2 := iD2.2.2
    have r1 := unionC_p ha hb (by omega) (by omega)
    have r2 := unionC_p iU.1 hc (by omega) (by omega)
    have r3 := unionC_p hc hb (by omega) (by omega)
    have r4 := unionC_p iW2.1 ha (by omega) (by omega)
    have r5 := unionC_p hb hc (by omega) (by omega)
    have r6 := meetC_p ha iV.1 (by omega) (by omega)
    have r7 := meetC_p ha hb (by omega) (by omega)
    have r8 := meetC_p ha hc (by omega) (by omega)
    have r9 := unionC_p iM2.1 iM3.1 (by omega) (by omega)
    have r10 := minusC_p ha hb (by omega) (by omega) (by omega)
    have r11 := minusC_p ha iD1.1 (by omega) (by omega) (by omega)
    have g : ∀ {x y : List Spn}, RightC x → RightC y → x.length ≤ 100000 → y.length ≤ 100000 → ∀ t, decide (x = y) = t → AFnP Try.prog 36 [lstE spE x, lstE spE y] (.bool t) := fun hx hy lx ly t ht => csame_p (by omega) (by omega) (by rw [rightC_iff.2 hx, rightC_iff.2 hy, Bool.true_and, Bool.true_and]; exact ht)
    have s1 := g iW1.1 iW3.1 (by omega) (by omega) true (decide_eq_true e1)
    have s2 := g iM1.1 iX.1 (by omega) (by omega) true (decide_eq_true e2)
    have s3 := g iD2.1 iM2.1 (by omega) (by omega) true (decide_eq_true e3)
    have s4 := g iU.1 hb (by omega) (by omega)
    have q1 := cleq_t ha iU.1 (by omega) (by omega) (by omega) (t := true) (decide_eq_true ((leq_iff ha iU.1).2 fun d y k => (iU.2.1 d y).2 (.inl k)))
    have q2 := cleq_t hb iU.1 (by omega) (by omega) (by omega) (t := true) (decide_eq_true ((leq_iff hb iU.1).2 fun d y k => (iU.2.1 d y).2 (.inr k)))
    have q3 : ∀ t, decide (byC minusL a c = []) = t → AFnP Try.prog 35 [lstE spE a, lstE spE c] (.bool t) := fun t ht => cleq_t ha hc (by omega) (by omega) (by omega) ht
    have q4 : ∀ t, decide (byC minusL b c = []) = t → AFnP Try.prog 35 [lstE spE b, lstE spE c] (.bool t) := fun t ht => cleq_t hb hc (by omega) (by omega) (by omega) ht
    have q5 : ∀ t, decide (byC minusL (byC unL a b) c = []) = t → AFnP Try.prog 35 [lstE spE (byC unL a b), lstE spE c] (.bool t) := fun t ht => cleq_t iU.1 hc (by omega) (by omega) (by omega) ht
    have q6 : ∀ t, decide (byC minusL a b = []) = t → AFnP Try.prog 35 [lstE spE a, lstE spE b] (.bool t) := fun t ht => cleq_t ha hb (by omega) (by omega) (by omega) ht
    have k1 : decide (byC minusL a c = []) = true → decide (byC minusL b c = []) = true → decide (byC minusL (byC unL a b) c = []) = true := fun h1 h2 => by
      rw [decide_eq_true_eq, leq_iff iU.1 hc]
      intro d y k
      rcases (iU.2.1 d y).1 k with k | k
      · exact (leq_iff ha hc).1 (of_decide_eq_true h1) d y k
      · exact (leq_iff hb hc).1 (of_decide_eq_true h2) d y k
    have k2 : decide (byC unL a b = b) = decide (byC minusL a b = []) := by
      rw [decide_eq_decide, leq_iff ha hb]
      constructor
      · intro e d y k
        have := (iU.2.1 d y).2 (.inl k)
        rwa [e] at this
      · intro h
        exact ext_has iU.1 hb fun d y => by rw [iU.2.1]; exact ⟨fun k => by rcases k with k | k; exact h d y k; exact k, .inr⟩
    rw [k2] at s4
    clear k2 e1 e2 e3 iU iW1 iW2 iW3 iV iM1 iM2 iM3 iX iD1 iD2 lU lW1 lW2 lW3 lV lM1 lM2 lM3 lX lD1 lD2 m1 m2 m3 m4 m5 m6 m7 g
    generalize byC unL (byC unL a b) c = W1 at *
    generalize byC unL (byC unL c b) a = W3 at *
    generalize byC meetL a (byC unL b c) = M1 at *
    generalize byC unL (byC meetL a b) (byC meetL a c) = X at *
    generalize byC minusL a (byC minusL a b) = D2 at *
    have s4 := s4 _ rfl
    have q6 := q6 _ rfl
    generalize hz6 : decide (byC minusL a b = []) = t6 at *
    generalize hz3 : decide (byC minusL a c = []) = t3 at *
    generalize hz4 : decide (byC minusL b c = []) = t4 at *
    generalize hz5 : decide (byC minusL (byC unL a b) c = []) = t5 at *
    clear hz3 hz4 hz5 hz6
    have q3 := q3 _ rfl
    have q4 := q4 _ rfl
    have q5 := q5 _ rfl
    generalize byC unL a b = U at *
    generalize byC unL c b = W2 at *
    generalize byC unL b c = V at *
    generalize byC meetL a b = M2 at *
    generalize byC meetL a c = M3 at *
    generalize byC minusL a b = D1 at *
    have fin : t6 = false ∨ t6 = true := by cases t6 <;> simp
    have fin3 : t3 = false ∨ (t3 = true ∧ t4 = false) ∨ (t3 = true ∧ t4 = true ∧ t5 = true) := by cases t3 <;> cases t4 <;> simp_all
    rcases fin with rfl | rfl <;> rcases fin3 with rfl | ⟨rfl, rfl⟩ | ⟨rfl, rfl, rfl⟩
    all_goals clear k1
    all_goals (try conv => whnf)<;>repeat' ((first|(refine VS.mk ?_;intro t ht;cases t<;>(first|replace ht := of_decide_eq_true ht|replace ht := of_decide_eq_false ht|replace ht := beq_iff_eq.1 ht|replace ht := beq_eq_false_iff_ne.1 ht|replace ht := bne_iff_ne.1 ht|replace ht := bne_eq_false_iff_eq.1 ht|skip)<;>(first|(exfalso;omega)|(cases ht;done)|exact absurd rfl ht|exact absurd (ht.symm.trans (by assumption : _ = false)) (by decide)|exact absurd (ht.symm.trans (by assumption : _ = true)) (by decide)|skip))|refine VWr.mk ⟨_,wrap_in ⟨by omega,by omega⟩,?_⟩|refine VIx.mk ⟨_,_,rfl,getE (by omega),rfl,?_⟩|refine VIx.mk ⟨_,_,by assumption,getE (by omega),rfl,?_⟩|refine VIx.mk ⟨Int.toNat _,_,(Int.toNat_of_nonneg (by omega)).symm,getE (by omega),rfl,?_⟩|refine VIx.mk ⟨_,_,rfl,by assumption,rfl,?_⟩|refine VIx.mk ⟨Int.toNat _,_,rfl,rfl,rfl,?_⟩|refine VIx.mk ⟨0,_,rfl,rfl,rfl,?_⟩|refine VIx.mk ⟨1,_,rfl,rfl,rfl,?_⟩|refine VIx.mk ⟨2,_,rfl,rfl,rfl,?_⟩|refine VIx.mk ⟨3,_,rfl,rfl,rfl,?_⟩|refine VAt.mk ⟨_,rfl,by omega,?_⟩|refine VAt.mk ⟨_,by assumption,by omega,?_⟩|refine VAt.mk ⟨0,rfl,by decide,?_⟩|refine VAt.mk ⟨1,rfl,by decide,?_⟩|refine VAt.mk ⟨2,rfl,by decide,?_⟩|refine VAt.mk ⟨3,rfl,by decide,?_⟩|refine VAt.mk ⟨Int.toNat _,rfl,by decide,?_⟩|refine VAt.mk ⟨Int.toNat _,(Int.toNat_of_nonneg (by omega)).symm,by omega,?_⟩|refine VRow.mk ⟨_,by assumption,?_⟩|refine VRow.mk ⟨_,getE (by omega),?_⟩|refine VRow.mk ⟨_,rfl,?_⟩|refine VApp.mk (by first|exact rok_lit rfl|exact rok_map (fun _ => ⟨rfl,rfl⟩)) (by omega) ?_|refine VDr.mk ⟨[],[],[],by decide +kernel,?_⟩|(refine Or.inl (VSl.of ?_ ?_ ?_ ?_ (by first|exact len_map (fun _ => rfl)|exact len_lit rfl) ?_);· exact rfl;· exact rfl;· omega;· omega)|refine Or.inl (VSn.mk ⟨by first|rfl|omega,by first|rfl|omega,?_⟩)|refine Or.inr (VSo.mk ⟨_,rfl,rfl,by omega,?_⟩)|refine Or.inr (VSo.mk ⟨0,rfl,rfl,by omega,?_⟩)|refine VAz.mk ⟨_,rfl,by omega,by omega,?_⟩|refine VAz.mk ⟨Int.toNat _,(Int.toNat_of_nonneg (by omega)).symm,by omega,by omega,?_⟩|refine VCf.mk ⟨_,_,awakeC_a,rfl,?_⟩|refine Or.inl (VCf.mk ⟨_,_,awakeC_a,rfl,?_⟩)|refine Or.inr (Or.inl (VCz.of awakeC_a ?_))|refine VCf.mk ⟨_,_,h0,rfl,?_⟩|refine Or.inl (VCf.mk ⟨_,_,h0,rfl,?_⟩)|refine Or.inr (Or.inl (VCz.of h0 ?_))|refine VCf.mk ⟨_,_,r1,rfl,?_⟩|refine Or.inl (VCf.mk ⟨_,_,r1,rfl,?_⟩)|refine Or.inr (Or.inl (VCz.of r1 ?_))|refine VCf.mk ⟨_,_,r2,rfl,?_⟩|refine Or.inl (VCf.mk ⟨_,_,r2,rfl,?_⟩)|refine Or.inr (Or.inl (VCz.of r2 ?_))|refine VCf.mk ⟨_,_,r3,rfl,?_⟩|refine Or.inl (VCf.mk ⟨_,_,r3,rfl,?_⟩)|refine Or.inr (Or.inl (VCz.of r3 ?_))|refine VCf.mk ⟨_,_,r4,rfl,?_⟩|refine Or.inl (VCf.mk ⟨_,_,r4,rfl,?_⟩)|refine Or.inr (Or.inl (VCz.of r4 ?_))|refine VCf.mk ⟨_,_,r5,rfl,?_⟩|refine Or.inl (VCf.mk ⟨_,_,r5,rfl,?_⟩)|refine Or.inr (Or.inl (VCz.of r5 ?_))|refine VCf.mk ⟨_,_,r6,rfl,?_⟩|refine Or.inl (VCf.mk ⟨_,_,r6,rfl,?_⟩)|refine Or.inr (Or.inl (VCz.of r6 ?_))|refine VCf.mk ⟨_,_,r7,rfl,?_⟩|refine Or.inl (VCf.mk ⟨_,_,r7,rfl,?_⟩)|refine Or.inr (Or.inl (VCz.of r7 ?_))|refine VCf.mk ⟨_,_,r8,rfl,?_⟩|refine Or.inl (VCf.mk ⟨_,_,r8,rfl,?_⟩)|refine Or.inr (Or.inl (VCz.of r8 ?_))|refine VCf.mk ⟨_,_,r9,rfl,?_⟩|refine Or.inl (VCf.mk ⟨_,_,r9,rfl,?_⟩)|refine Or.inr (Or.inl (VCz.of r9 ?_))|refine VCf.mk ⟨_,_,r10,rfl,?_⟩|refine Or.inl (VCf.mk ⟨_,_,r10,rfl,?_⟩)|refine Or.inr (Or.inl (VCz.of r10 ?_))|refine VCf.mk ⟨_,_,r11,rfl,?_⟩|refine Or.inl (VCf.mk ⟨_,_,r11,rfl,?_⟩)|refine Or.inr (Or.inl (VCz.of r11 ?_))|refine VCf.mk ⟨_,_,s1,rfl,?_⟩|refine Or.inl (VCf.mk ⟨_,_,s1,rfl,?_⟩)|refine Or.inr (Or.inl (VCz.of s1 ?_))|refine VCf.mk ⟨_,_,s2,rfl,?_⟩|refine Or.inl (VCf.mk ⟨_,_,s2,rfl,?_⟩)|refine Or.inr (Or.inl (VCz.of s2 ?_))|refine VCf.mk ⟨_,_,s3,rfl,?_⟩|refine Or.inl (VCf.mk ⟨_,_,s3,rfl,?_⟩)|refine Or.inr (Or.inl (VCz.of s3 ?_))|refine VCf.mk ⟨_,_,s4,rfl,?_⟩|refine Or.inl (VCf.mk ⟨_,_,s4,rfl,?_⟩)|refine Or.inr (Or.inl (VCz.of s4 ?_))|refine VCf.mk ⟨_,_,q1,rfl,?_⟩|refine Or.inl (VCf.mk ⟨_,_,q1,rfl,?_⟩)|refine Or.inr (Or.inl (VCz.of q1 ?_))|refine VCf.mk ⟨_,_,q2,rfl,?_⟩|refine Or.inl (VCf.mk ⟨_,_,q2,rfl,?_⟩)|refine Or.inr (Or.inl (VCz.of q2 ?_))|refine VCf.mk ⟨_,_,q3,rfl,?_⟩|refine Or.inl (VCf.mk ⟨_,_,q3,rfl,?_⟩)|refine Or.inr (Or.inl (VCz.of q3 ?_))|refine VCf.mk ⟨_,_,q4,rfl,?_⟩|refine Or.inl (VCf.mk ⟨_,_,q4,rfl,?_⟩)|refine Or.inr (Or.inl (VCz.of q4 ?_))|refine VCf.mk ⟨_,_,q5,rfl,?_⟩|refine Or.inl (VCf.mk ⟨_,_,q5,rfl,?_⟩)|refine Or.inr (Or.inl (VCz.of q5 ?_))|refine VCf.mk ⟨_,_,q6,rfl,?_⟩|refine Or.inl (VCf.mk ⟨_,_,q6,rfl,?_⟩)|refine Or.inr (Or.inl (VCz.of q6 ?_))|fail)<;>(try conv => whnf))
    all_goals simp at ht
end Go.Proofs.Ytklionofaknjcaa
