/- What is proved: chapter 06's law functions SpanAlgebra and SpanAdds answer true. Conditions: none. -/
import Derived.Test.YtpifafhcjloncaaLb
namespace Go.Proofs.Ytpifafhcjloncaa
open Go.RowKit
set_option linter.unusedVariables false
set_option linter.unusedSimpArgs false
set_option maxRecDepth 100000
set_option maxHeartbeats 16000000
attribute [local irreducible] unL ofL minusL frontL countL hasB rightL
theorem count_bound {l : List (Int × Int)} (hR : rightL l = true) : 0 ≤ countL l ∧ countL l ≤ 1099511627776 := by
  have h := sumL_bound hR l.length (Nat.le_refl _)
  rw [List.take_length] at h
  have he : countL l = sumL l := by unfold countL; rw [if_pos hR]
  rw [he]
  rcases Nat.eq_zero_or_pos l.length with h0 | h0
  · rcases h.2.1 with h1 | h1 <;> omega
  · have := h.2.2 h0 (by omega)
    omega
theorem lawAdds_a (l : List (Int × Int)) (n other : Int) : AFnP Try.prog 7 [lstE runE l, i64 n, i64 other] (.bool true) := by
  refine afnp_in ty_ok Try.call7 Try.func7 rfl rfl (by decide +kernel) ?_
  cases hs : [l].all okSet
  · have h0 : AFnP Try.prog 24 [.lst 1 [[lstE runE l]]] (.bool false) := sets_a [l] (by simp) hs
    (try conv => whnf) <;> repeat' ((first | (refine VS.mk ?_; intro t ht; cases t <;> (first | replace ht := of_decide_eq_true ht | replace ht := of_decide_eq_false ht | replace ht := beq_iff_eq.1 ht | replace ht := beq_eq_false_iff_ne.1 ht | replace ht := bne_iff_ne.1 ht | replace ht := bne_eq_false_iff_eq.1 ht | skip) <;> (first | (exfalso; omega) | (cases ht; done) | exact absurd rfl ht | exact absurd (ht.symm.trans (by assumption : _ = false)) (by decide) | exact absurd (ht.symm.trans (by assumption : _ = true)) (by decide) | skip)) | (refine VWr.mk ⟨_, wrap_in ⟨by omega, by omega⟩, ?_⟩) | (refine VIx.mk ⟨_, _, rfl, getE (by omega), rfl, ?_⟩) | (refine VIx.mk ⟨_, _, by assumption, getE (by omega), rfl, ?_⟩) | (refine VIx.mk ⟨Int.toNat _, _, (Int.toNat_of_nonneg (by omega)).symm, getE (by omega), rfl, ?_⟩) | (refine VIx.mk ⟨_, _, rfl, by assumption, rfl, ?_⟩) | (refine VIx.mk ⟨Int.toNat _, _, rfl, rfl, rfl, ?_⟩) | (refine VIx.mk ⟨0, _, rfl, rfl, rfl, ?_⟩) | (refine VIx.mk ⟨1, _, rfl, rfl, rfl, ?_⟩) | (refine VIx.mk ⟨2, _, rfl, rfl, rfl, ?_⟩) | (refine VIx.mk ⟨3, _, rfl, rfl, rfl, ?_⟩) | (refine VAt.mk ⟨_, rfl, by omega, ?_⟩) | (refine VAt.mk ⟨_, by assumption, by omega, ?_⟩) | (refine VAt.mk ⟨Int.toNat _, rfl, by decide, ?_⟩) | (refine VAt.mk ⟨Int.toNat _, (Int.toNat_of_nonneg (by omega)).symm, by omega, ?_⟩) | (refine VRow.mk ⟨_, by assumption, ?_⟩) | (refine VRow.mk ⟨_, getE (by omega), ?_⟩) | (refine VRow.mk ⟨_, rfl, ?_⟩) | (refine VApp.mk (by first | exact rok_lit rfl | exact rok_map (fun _ => ⟨rfl, rfl⟩)) (by omega) ?_) | (refine VDr.mk ⟨[], by decide +kernel, ?_⟩) | (refine Or.inl (VSl.of ?_ ?_ ?_ ?_ (by first | exact len_map (fun _ => rfl) | exact len_lit rfl) ?_); · exact rfl; · exact rfl; · omega; · omega) | (refine Or.inl (VSn.mk ⟨by first | rfl | omega, by first | rfl | omega, ?_⟩)) | (refine Or.inr (VSo.mk ⟨_, rfl, rfl, by omega, ?_⟩)) | (refine Or.inr (VSo.mk ⟨0, rfl, rfl, by omega, ?_⟩)) | (refine VAz.mk ⟨_, rfl, by omega, by omega, ?_⟩) | (refine VAz.mk ⟨Int.toNat _, (Int.toNat_of_nonneg (by omega)).symm, by omega, by omega, ?_⟩) | refine VCf.mk ⟨_, _, awake_a, rfl, ?_⟩ | refine Or.inl (VCf.mk ⟨_, _, awake_a, rfl, ?_⟩) | refine Or.inr (Or.inl (VCz.of awake_a ?_)) | refine VCf.mk ⟨_, _, h0, rfl, ?_⟩ | refine Or.inl (VCf.mk ⟨_, _, h0, rfl, ?_⟩) | refine Or.inr (Or.inl (VCz.of h0 ?_)) | fail) <;> (try conv => whnf))
  · have h0 : AFnP Try.prog 24 [.lst 1 [[lstE runE l]]] (.bool true) := sets_a [l] (by simp) hs
    by_cases hn : 1 ≤ n ∧ n ≤ 1099511627776
    · obtain ⟨hl, hR⟩ : l.length ≤ 40 ∧ rightL l = true := by simpa [okSet] using hs
      have hRl := rightL_iff.1 hR
      have hok : [n].all okNum = true := by simp [okNum, hn]
      have hof := ofL_is hok
      have hol := ofL_len (l := [n])
      have hR1 := rightL_iff.2 hof.1
      have hu := unL_is hR hR1
      have hul : (unL l (ofL [n])).length ≤ 41 := by have := hu.2.2; simp only [List.length_cons, List.length_nil] at hol; omega
      have hm : ∀ y, hasL (unL l (ofL [n])) y ↔ hasL l y ∨ y = n := fun y => by rw [hu.2.1 y, hof.2 y, List.mem_singleton]
      have hc := count_add hRl hu.1 hn hm
      have hcb := count_bound hR
      have r1 := runs_a l (by omega)
      have f1 : AFnP Try.prog 12 [.lst 1 [[i64 n]]] (.tup [lstE runE (ofL [n]), i64 0]) := of_p (l := [n]) hok (by simp)
      have u1 := union_p hR hR1 (by omega) (by simp only [List.length_cons, List.length_nil] at hol; omega)
      have g1 := right_p (l := unL l (ofL [n])) (by omega) (rightL_iff.2 hu.1)
      have g2 := has_p (l := unL l (ofL [n])) (n := n) (t := true) (by omega) ((hasB_right hu.1).2 ((hm n).2 (.inr rfl)))
      have g3 := count_p (l := l) (by omega) rfl
      generalize hcl : countL l = C at hc hcb g3
      generalize hU : unL l (ofL [n]) = U at *
      have key : ∀ t : Bool, hasB l n = t → ∀ s : Bool, hasB l other = s → other = n ∨ other ≠ n → Go.Proofs.Ytpifafhcjloncaa.hasB U other = (decide (other = n) || s) := fun t _ s hs2 _ => by
        refine hasB_eq hu.1 ?_
        rw [hm other, ← hasB_right hRl, hs2]
        simp [or_comm]
      cases hp : hasB l n <;> cases hq : hasB l other <;> by_cases ho : other = n
      all_goals
        have k1 := key _ hp _ hq (by omega)
        have c1 := count_p (l := U) (by omega) hc
        have p1 := has_p (l := l) (by omega) hp
        have p2 := has_p (l := l) (by omega) hq
        have p3 := has_p (l := U) (by omega) k1
        rw [hp] at c1
        simp only [Bool.false_eq_true, if_false, if_true, ho, decide_true, decide_false, Bool.true_or, Bool.false_or, Int.add_zero] at c1 p3
        clear key k1 hc hu hm hof
        (try conv => whnf) <;> repeat' ((first | (refine VS.mk ?_; intro t ht; cases t <;> (first | replace ht := of_decide_eq_true ht | replace ht := of_decide_eq_false ht | replace ht := beq_iff_eq.1 ht | replace ht := beq_eq_false_iff_ne.1 ht | replace ht := bne_iff_ne.1 ht | replace ht := bne_eq_false_iff_eq.1 ht | skip) <;> (first | (exfalso; omega) | (cases ht; done) | exact absurd rfl ht | exact absurd (ht.symm.trans (by assumption : _ = false)) (by decide) | exact absurd (ht.symm.trans (by assumption : _ = true)) (by decide) | skip)) | (refine VWr.mk ⟨_, wrap_in ⟨by omega, by omega⟩, ?_⟩) | (refine VIx.mk ⟨_, _, rfl, getE (by omega), rfl, ?_⟩) | (refine VIx.mk ⟨_, _, by assumption, getE (by omega), rfl, ?_⟩) | (refine VIx.mk ⟨Int.toNat _, _, (Int.toNat_of_nonneg (by omega)).symm, getE (by omega), rfl, ?_⟩) | (refine VIx.mk ⟨_, _, rfl, by assumption, rfl, ?_⟩) | (refine VIx.mk ⟨Int.toNat _, _, rfl, rfl, rfl, ?_⟩) | (refine VIx.mk ⟨0, _, rfl, rfl, rfl, ?_⟩) | (refine VIx.mk ⟨1, _, rfl, rfl, rfl, ?_⟩) | (refine VIx.mk ⟨2, _, rfl, rfl, rfl, ?_⟩) | (refine VIx.mk ⟨3, _, rfl, rfl, rfl, ?_⟩) | (refine VAt.mk ⟨_, rfl, by omega, ?_⟩) | (refine VAt.mk ⟨_, by assumption, by omega, ?_⟩) | (refine VAt.mk ⟨Int.toNat _, rfl, by decide, ?_⟩) | (refine VAt.mk ⟨Int.toNat _, (Int.toNat_of_nonneg (by omega)).symm, by omega, ?_⟩) | (refine VRow.mk ⟨_, by assumption, ?_⟩) | (refine VRow.mk ⟨_, getE (by omega), ?_⟩) | (refine VRow.mk ⟨_, rfl, ?_⟩) | (refine VApp.mk (by first | exact rok_lit rfl | exact rok_map (fun _ => ⟨rfl, rfl⟩)) (by omega) ?_) | (refine VDr.mk ⟨[], by decide +kernel, ?_⟩) | (refine Or.inl (VSl.of ?_ ?_ ?_ ?_ (by first | exact len_map (fun _ => rfl) | exact len_lit rfl) ?_); · exact rfl; · exact rfl; · omega; · omega) | (refine Or.inl (VSn.mk ⟨by first | rfl | omega, by first | rfl | omega, ?_⟩)) | (refine Or.inr (VSo.mk ⟨_, rfl, rfl, by omega, ?_⟩)) | (refine Or.inr (VSo.mk ⟨0, rfl, rfl, by omega, ?_⟩)) | (refine VAz.mk ⟨_, rfl, by omega, by omega, ?_⟩) | (refine VAz.mk ⟨Int.toNat _, (Int.toNat_of_nonneg (by omega)).symm, by omega, by omega, ?_⟩) | refine VCf.mk ⟨_, _, awake_a, rfl, ?_⟩ | refine Or.inl (VCf.mk ⟨_, _, awake_a, rfl, ?_⟩) | refine Or.inr (Or.inl (VCz.of awake_a ?_)) | refine VCf.mk ⟨_, _, h0, rfl, ?_⟩ | refine Or.inl (VCf.mk ⟨_, _, h0, rfl, ?_⟩) | refine Or.inr (Or.inl (VCz.of h0 ?_)) | refine VCf.mk ⟨_, _, r1, rfl, ?_⟩ | refine Or.inl (VCf.mk ⟨_, _, r1, rfl, ?_⟩) | refine Or.inr (Or.inl (VCz.of r1 ?_)) | refine VCf.mk ⟨_, _, f1, rfl, ?_⟩ | refine Or.inl (VCf.mk ⟨_, _, f1, rfl, ?_⟩) | refine Or.inr (Or.inl (VCz.of f1 ?_)) | refine VCf.mk ⟨_, _, u1, rfl, ?_⟩ | refine Or.inl (VCf.mk ⟨_, _, u1, rfl, ?_⟩) | refine Or.inr (Or.inl (VCz.of u1 ?_)) | refine VCf.mk ⟨_, _, g1, rfl, ?_⟩ | refine Or.inl (VCf.mk ⟨_, _, g1, rfl, ?_⟩) | refine Or.inr (Or.inl (VCz.of g1 ?_)) | refine VCf.mk ⟨_, _, g2, rfl, ?_⟩ | refine Or.inl (VCf.mk ⟨_, _, g2, rfl, ?_⟩) | refine Or.inr (Or.inl (VCz.of g2 ?_)) | refine VCf.mk ⟨_, _, g3, rfl, ?_⟩ | refine Or.inl (VCf.mk ⟨_, _, g3, rfl, ?_⟩) | refine Or.inr (Or.inl (VCz.of g3 ?_)) | refine VCf.mk ⟨_, _, c1, rfl, ?_⟩ | refine Or.inl (VCf.mk ⟨_, _, c1, rfl, ?_⟩) | refine Or.inr (Or.inl (VCz.of c1 ?_)) | refine VCf.mk ⟨_, _, p1, rfl, ?_⟩ | refine Or.inl (VCf.mk ⟨_, _, p1, rfl, ?_⟩) | refine Or.inr (Or.inl (VCz.of p1 ?_)) | refine VCf.mk ⟨_, _, p2, rfl, ?_⟩ | refine Or.inl (VCf.mk ⟨_, _, p2, rfl, ?_⟩) | refine Or.inr (Or.inl (VCz.of p2 ?_)) | refine VCf.mk ⟨_, _, p3, rfl, ?_⟩ | refine Or.inl (VCf.mk ⟨_, _, p3, rfl, ?_⟩) | refine Or.inr (Or.inl (VCz.of p3 ?_)) | fail) <;> (try conv => whnf))
        all_goals trace_state
    · (try conv => whnf) <;> repeat' ((first | (refine VS.mk ?_; intro t ht; cases t <;> (first | replace ht := of_decide_eq_true ht | replace ht := of_decide_eq_false ht | replace ht := beq_iff_eq.1 ht | replace ht := beq_eq_false_iff_ne.1 ht | replace ht := bne_iff_ne.1 ht | replace ht := bne_eq_false_iff_eq.1 ht | skip) <;> (first | (exfalso; omega) | (cases ht; done) | exact absurd rfl ht | exact absurd (ht.symm.trans (by assumption : _ = false)) (by decide) | exact absurd (ht.symm.trans (by assumption : _ = true)) (by decide) | skip)) | (refine VWr.mk ⟨_, wrap_in ⟨by omega, by omega⟩, ?_⟩) | (refine VIx.mk ⟨_, _, rfl, getE (by omega), rfl, ?_⟩) | (refine VIx.mk ⟨_, _, by assumption, getE (by omega), rfl, ?_⟩) | (refine VIx.mk ⟨Int.toNat _, _, (Int.toNat_of_nonneg (by omega)).symm, getE (by omega), rfl, ?_⟩) | (refine VIx.mk ⟨_, _, rfl, by assumption, rfl, ?_⟩) | (refine VIx.mk ⟨Int.toNat _, _, rfl, rfl, rfl, ?_⟩) | (refine VIx.mk ⟨0, _, rfl, rfl, rfl, ?_⟩) | (refine VIx.mk ⟨1, _, rfl, rfl, rfl, ?_⟩) | (refine VIx.mk ⟨2, _, rfl, rfl, rfl, ?_⟩) | (refine VIx.mk ⟨3, _, rfl, rfl, rfl, ?_⟩) | (refine VAt.mk ⟨_, rfl, by omega, ?_⟩) | (refine VAt.mk ⟨_, by assumption, by omega, ?_⟩) | (refine VAt.mk ⟨Int.toNat _, rfl, by decide, ?_⟩) | (refine VAt.mk ⟨Int.toNat _, (Int.toNat_of_nonneg (by omega)).symm, by omega, ?_⟩) | (refine VRow.mk ⟨_, by assumption, ?_⟩) | (refine VRow.mk ⟨_, getE (by omega), ?_⟩) | (refine VRow.mk ⟨_, rfl, ?_⟩) | (refine VApp.mk (by first | exact rok_lit rfl | exact rok_map (fun _ => ⟨rfl, rfl⟩)) (by omega) ?_) | (refine VDr.mk ⟨[], by decide +kernel, ?_⟩) | (refine Or.inl (VSl.of ?_ ?_ ?_ ?_ (by first | exact len_map (fun _ => rfl) | exact len_lit rfl) ?_); · exact rfl; · exact rfl; · omega; · omega) | (refine Or.inl (VSn.mk ⟨by first | rfl | omega, by first | rfl | omega, ?_⟩)) | (refine Or.inr (VSo.mk ⟨_, rfl, rfl, by omega, ?_⟩)) | (refine Or.inr (VSo.mk ⟨0, rfl, rfl, by omega, ?_⟩)) | (refine VAz.mk ⟨_, rfl, by omega, by omega, ?_⟩) | (refine VAz.mk ⟨Int.toNat _, (Int.toNat_of_nonneg (by omega)).symm, by omega, by omega, ?_⟩) | refine VCf.mk ⟨_, _, awake_a, rfl, ?_⟩ | refine Or.inl (VCf.mk ⟨_, _, awake_a, rfl, ?_⟩) | refine Or.inr (Or.inl (VCz.of awake_a ?_)) | refine VCf.mk ⟨_, _, h0, rfl, ?_⟩ | refine Or.inl (VCf.mk ⟨_, _, h0, rfl, ?_⟩) | refine Or.inr (Or.inl (VCz.of h0 ?_)) | fail) <;> (try conv => whnf))
theorem lawAlgebra_a (a b c : List (Int × Int)) : AFnP Try.prog 8 [lstE runE a, lstE runE b, lstE runE c] (.bool true) := by
  refine afnp_in ty_ok Try.call8 Try.func8 rfl rfl (by decide +kernel) ?_
  cases hs : [a, b, c].all okSet
  · have h0 : AFnP Try.prog 24 [.lst 3 [[lstE runE a], [lstE runE b], [lstE runE c]]] (.bool false) := sets_a [a, b, c] (by simp) hs
    (try conv => whnf) <;> repeat' ((first | (refine VS.mk ?_; intro t ht; cases t <;> (first | replace ht := of_decide_eq_true ht | replace ht := of_decide_eq_false ht | replace ht := beq_iff_eq.1 ht | replace ht := beq_eq_false_iff_ne.1 ht | replace ht := bne_iff_ne.1 ht | replace ht := bne_eq_false_iff_eq.1 ht | skip) <;> (first | (exfalso; omega) | (cases ht; done) | exact absurd rfl ht | exact absurd (ht.symm.trans (by assumption : _ = false)) (by decide) | exact absurd (ht.symm.trans (by assumption : _ = true)) (by decide) | skip)) | (refine VWr.mk ⟨_, wrap_in ⟨by omega, by omega⟩, ?_⟩) | (refine VIx.mk ⟨_, _, rfl, getE (by omega), rfl, ?_⟩) | (refine VIx.mk ⟨_, _, by assumption, getE (by omega), rfl, ?_⟩) | (refine VIx.mk ⟨Int.toNat _, _, (Int.toNat_of_nonneg (by omega)).symm, getE (by omega), rfl, ?_⟩) | (refine VIx.mk ⟨_, _, rfl, by assumption, rfl, ?_⟩) | (refine VIx.mk ⟨Int.toNat _, _, rfl, rfl, rfl, ?_⟩) | (refine VIx.mk ⟨0, _, rfl, rfl, rfl, ?_⟩) | (refine VIx.mk ⟨1, _, rfl, rfl, rfl, ?_⟩) | (refine VIx.mk ⟨2, _, rfl, rfl, rfl, ?_⟩) | (refine VIx.mk ⟨3, _, rfl, rfl, rfl, ?_⟩) | (refine VAt.mk ⟨_, rfl, by omega, ?_⟩) | (refine VAt.mk ⟨_, by assumption, by omega, ?_⟩) | (refine VAt.mk ⟨Int.toNat _, rfl, by decide, ?_⟩) | (refine VAt.mk ⟨Int.toNat _, (Int.toNat_of_nonneg (by omega)).symm, by omega, ?_⟩) | (refine VRow.mk ⟨_, by assumption, ?_⟩) | (refine VRow.mk ⟨_, getE (by omega), ?_⟩) | (refine VRow.mk ⟨_, rfl, ?_⟩) | (refine VApp.mk (by first | exact rok_lit rfl | exact rok_map (fun _ => ⟨rfl, rfl⟩)) (by omega) ?_) | (refine VDr.mk ⟨[], by decide +kernel, ?_⟩) | (refine Or.inl (VSl.of ?_ ?_ ?_ ?_ (by first | exact len_map (fun _ => rfl) | exact len_lit rfl) ?_); · exact rfl; · exact rfl; · omega; · omega) | (refine Or.inl (VSn.mk ⟨by first | rfl | omega, by first | rfl | omega, ?_⟩)) | (refine Or.inr (VSo.mk ⟨_, rfl, rfl, by omega, ?_⟩)) | (refine Or.inr (VSo.mk ⟨0, rfl, rfl, by omega, ?_⟩)) | (refine VAz.mk ⟨_, rfl, by omega, by omega, ?_⟩) | (refine VAz.mk ⟨Int.toNat _, (Int.toNat_of_nonneg (by omega)).symm, by omega, by omega, ?_⟩) | refine VCf.mk ⟨_, _, awake_a, rfl, ?_⟩ | refine Or.inl (VCf.mk ⟨_, _, awake_a, rfl, ?_⟩) | refine Or.inr (Or.inl (VCz.of awake_a ?_)) | refine VCf.mk ⟨_, _, h0, rfl, ?_⟩ | refine Or.inl (VCf.mk ⟨_, _, h0, rfl, ?_⟩) | refine Or.inr (Or.inl (VCz.of h0 ?_)) | fail) <;> (try conv => whnf))
  · have h0 : AFnP Try.prog 24 [.lst 3 [[lstE runE a], [lstE runE b], [lstE runE c]]] (.bool true) := sets_a [a, b, c] (by simp) hs
    obtain ⟨⟨la, ra⟩, ⟨lb, rb⟩, lc, rc⟩ : (a.length ≤ 40 ∧ rightL a = true) ∧ (b.length ≤ 40 ∧ rightL b = true) ∧ c.length ≤ 40 ∧ rightL c = true := by simpa [okSet] using hs
    have Ra := rightL_iff.1 ra
    have Rb := rightL_iff.1 rb
    have Rc := rightL_iff.1 rc
    have A1 := unL_is rb rc
    have A2 := unL_is ra (rightL_iff.2 A1.1)
    have A3 := unL_is rc ra
    have A4 := unL_is (rightL_iff.2 A3.1) rb
    have B1 := meet_spec _ a b (Nat.le_refl _) Ra Rb
    have B2 := meet_spec _ a (unL b c) (Nat.le_refl _) Ra A1.1
    have B3 := meet_spec _ a c (Nat.le_refl _) Ra Rc
    have B4 := unL_is (rightL_iff.2 B1.1) (rightL_iff.2 B3.1)
    have C1 := minus_spec Ra Rb
    have C2 := minus_spec Ra C1.1
    have D1 := unL_is (rightL_iff.2 B1.1) (rightL_iff.2 C1.1)
    have hdl : a.length * (b.length + 1) ≤ 40 * 41 := Nat.mul_le_mul la (by omega)
    have hdl2 : a.length * ((minusL a b).length + 1) ≤ 40 * 1641 := Nat.mul_le_mul la (by have := C1.2.2; omega)
    have E1 : unL a (unL b c) = unL (unL c a) b := canonR A2.1 A4.1 fun y => by
      rw [A2.2.1, A1.2.1, A4.2.1, A3.2.1]
      exact ⟨fun h => by rcases h with h | h | h; exact .inl (.inr h); exact .inr h; exact .inl (.inl h), fun h => by rcases h with (h | h) | h; exact .inr (.inr h); exact .inl h; exact .inr (.inl h)⟩
    have E2 : meetL a (unL b c) = unL (meetL a b) (meetL a c) := canonR B2.1 B4.1 fun y => by
      rw [B2.2.1, A1.2.1, B4.2.1, B1.2.1, B3.2.1]
      exact ⟨fun ⟨h, k⟩ => by rcases k with k | k; exact .inl ⟨h, k⟩; exact .inr ⟨h, k⟩, fun h => by rcases h with ⟨h, k⟩ | ⟨h, k⟩; exact ⟨h, .inl k⟩; exact ⟨h, .inr k⟩⟩
    have E3 : minusL a (minusL a b) = meetL a b := canonR C2.1 B1.1 fun y => by
      rw [C2.2.1, C1.2.1, B1.2.1]
      exact ⟨fun ⟨h, k⟩ => ⟨h, Classical.byContradiction fun k2 => k ⟨h, k2⟩⟩, fun ⟨h, k⟩ => ⟨h, fun k2 => k2.2 k⟩⟩
    have E4 : unL (meetL a b) (minusL a b) = a := canonR D1.1 Ra fun y => by
      rw [D1.2.1, B1.2.1, C1.2.1]
      exact ⟨fun h => by rcases h with h | h <;> exact h.1, fun h => by by_cases k : hasL b y; exact .inl ⟨h, k⟩; exact .inr ⟨h, k⟩⟩
    have lA1 := A1.2.2
    have lA2 := A2.2.2
    have lA3 := A3.2.2
    have lA4 := A4.2.2
    have lB1 := B1.2.2
    have lB2 := B2.2.2
    have lB3 := B3.2.2
    have lB4 := B4.2.2
    have lC1 := C1.2.2
    have lC2 := C2.2.2
    have lD1 := D1.2.2
    have r1 := runs_a a (by omega)
    have r2 := runs_a b (by omega)
    have r3 := runs_a c (by omega)
    have a1 := union_p rb rc (by omega) (by omega)
    have a2 := union_p ra (rightL_iff.2 A1.1) (by omega) (by omega)
    have a3 := union_p rc ra (by omega) (by omega)
    have a4 := union_p (rightL_iff.2 A3.1) rb (by omega) (by omega)
    have b1 := meet_p ra rb (by omega) (by omega)
    have b2 := meet_p ra (rightL_iff.2 A1.1) (by omega) (by omega)
    have b3 := meet_p ra rc (by omega) (by omega)
    have b4 := union_p (rightL_iff.2 B1.1) (rightL_iff.2 B3.1) (by omega) (by omega)
    have c1 := minus_p ra rb (by omega) (by omega)
    have c2 := minus_p ra (rightL_iff.2 C1.1) (by omega) (by omega)
    have d1 := union_p (rightL_iff.2 B1.1) (rightL_iff.2 C1.1) (by omega) (by omega)
    have p1 := plain_a (unL (unL c a) b) (by omega)
    have p2 := plain_a (unL (meetL a b) (meetL a c)) (by omega)
    have p3 := plain_a (meetL a b) (by omega)
    have s1 := same_a _ _ (by omega) (by omega) (decide_eq_true E1)
    have s2 := same_a _ _ (by omega) (by omega) (decide_eq_true E2)
    have s3 := same_a _ _ (by omega) (by omega) (decide_eq_true E3)
    have s4 := same_a _ _ (by omega) (by omega) (decide_eq_true E4)
    clear A1 A2 A3 A4 B1 B2 B3 B4 C1 C2 D1 E1 E2 E3 E4 lA1 lA2 lA3 lA4 lB1 lB2 lB3 lB4 lC1 lC2 lD1
    (try conv => whnf) <;> repeat' ((first | (refine VS.mk ?_; intro t ht; cases t <;> (first | replace ht := of_decide_eq_true ht | replace ht := of_decide_eq_false ht | replace ht := beq_iff_eq.1 ht | replace ht := beq_eq_false_iff_ne.1 ht | replace ht := bne_iff_ne.1 ht | replace ht := bne_eq_false_iff_eq.1 ht | skip) <;> (first | (exfalso; omega) | (cases ht; done) | exact absurd rfl ht | exact absurd (ht.symm.trans (by assumption : _ = false)) (by decide) | exact absurd (ht.symm.trans (by assumption : _ = true)) (by decide) | skip)) | (refine VWr.mk ⟨_, wrap_in ⟨by omega, by omega⟩, ?_⟩) | (refine VIx.mk ⟨_, _, rfl, getE (by omega), rfl, ?_⟩) | (refine VIx.mk ⟨_, _, by assumption, getE (by omega), rfl, ?_⟩) | (refine VIx.mk ⟨Int.toNat _, _, (Int.toNat_of_nonneg (by omega)).symm, getE (by omega), rfl, ?_⟩) | (refine VIx.mk ⟨_, _, rfl, by assumption, rfl, ?_⟩) | (refine VIx.mk ⟨Int.toNat _, _, rfl, rfl, rfl, ?_⟩) | (refine VIx.mk ⟨0, _, rfl, rfl, rfl, ?_⟩) | (refine VIx.mk ⟨1, _, rfl, rfl, rfl, ?_⟩) | (refine VIx.mk ⟨2, _, rfl, rfl, rfl, ?_⟩) | (refine VIx.mk ⟨3, _, rfl, rfl, rfl, ?_⟩) | (refine VAt.mk ⟨_, rfl, by omega, ?_⟩) | (refine VAt.mk ⟨_, by assumption, by omega, ?_⟩) | (refine VAt.mk ⟨Int.toNat _, rfl, by decide, ?_⟩) | (refine VAt.mk ⟨Int.toNat _, (Int.toNat_of_nonneg (by omega)).symm, by omega, ?_⟩) | (refine VRow.mk ⟨_, by assumption, ?_⟩) | (refine VRow.mk ⟨_, getE (by omega), ?_⟩) | (refine VRow.mk ⟨_, rfl, ?_⟩) | (refine VApp.mk (by first | exact rok_lit rfl | exact rok_map (fun _ => ⟨rfl, rfl⟩)) (by omega) ?_) | (refine VDr.mk ⟨[], by decide +kernel, ?_⟩) | (refine Or.inl (VSl.of ?_ ?_ ?_ ?_ (by first | exact len_map (fun _ => rfl) | exact len_lit rfl) ?_); · exact rfl; · exact rfl; · omega; · omega) | (refine Or.inl (VSn.mk ⟨by first | rfl | omega, by first | rfl | omega, ?_⟩)) | (refine Or.inr (VSo.mk ⟨_, rfl, rfl, by omega, ?_⟩)) | (refine Or.inr (VSo.mk ⟨0, rfl, rfl, by omega, ?_⟩)) | (refine VAz.mk ⟨_, rfl, by omega, by omega, ?_⟩) | (refine VAz.mk ⟨Int.toNat _, (Int.toNat_of_nonneg (by omega)).symm, by omega, by omega, ?_⟩) | refine VCf.mk ⟨_, _, awake_a, rfl, ?_⟩ | refine Or.inl (VCf.mk ⟨_, _, awake_a, rfl, ?_⟩) | refine Or.inr (Or.inl (VCz.of awake_a ?_)) | refine VCf.mk ⟨_, _, h0, rfl, ?_⟩ | refine Or.inl (VCf.mk ⟨_, _, h0, rfl, ?_⟩) | refine Or.inr (Or.inl (VCz.of h0 ?_)) | refine VCf.mk ⟨_, _, r1, rfl, ?_⟩ | refine Or.inl (VCf.mk ⟨_, _, r1, rfl, ?_⟩) | refine Or.inr (Or.inl (VCz.of r1 ?_)) | refine VCf.mk ⟨_, _, r2, rfl, ?_⟩ | refine Or.inl (VCf.mk ⟨_, _, r2, rfl, ?_⟩) | refine Or.inr (Or.inl (VCz.of r2 ?_)) | refine VCf.mk ⟨_, _, r3, rfl, ?_⟩ | refine Or.inl (VCf.mk ⟨_, _, r3, rfl, ?_⟩) | refine Or.inr (Or.inl (VCz.of r3 ?_)) | refine VCf.mk ⟨_, _, a1, rfl, ?_⟩ | refine Or.inl (VCf.mk ⟨_, _, a1, rfl, ?_⟩) | refine Or.inr (Or.inl (VCz.of a1 ?_)) | refine VCf.mk ⟨_, _, a2, rfl, ?_⟩ | refine Or.inl (VCf.mk ⟨_, _, a2, rfl, ?_⟩) | refine Or.inr (Or.inl (VCz.of a2 ?_)) | refine VCf.mk ⟨_, _, a3, rfl, ?_⟩ | refine Or.inl (VCf.mk ⟨_, _, a3, rfl, ?_⟩) | refine Or.inr (Or.inl (VCz.of a3 ?_)) | refine VCf.mk ⟨_, _, a4, rfl, ?_⟩ | refine Or.inl (VCf.mk ⟨_, _, a4, rfl, ?_⟩) | refine Or.inr (Or.inl (VCz.of a4 ?_)) | refine VCf.mk ⟨_, _, b1, rfl, ?_⟩ | refine Or.inl (VCf.mk ⟨_, _, b1, rfl, ?_⟩) | refine Or.inr (Or.inl (VCz.of b1 ?_)) | refine VCf.mk ⟨_, _, b2, rfl, ?_⟩ | refine Or.inl (VCf.mk ⟨_, _, b2, rfl, ?_⟩) | refine Or.inr (Or.inl (VCz.of b2 ?_)) | refine VCf.mk ⟨_, _, b3, rfl, ?_⟩ | refine Or.inl (VCf.mk ⟨_, _, b3, rfl, ?_⟩) | refine Or.inr (Or.inl (VCz.of b3 ?_)) | refine VCf.mk ⟨_, _, b4, rfl, ?_⟩ | refine Or.inl (VCf.mk ⟨_, _, b4, rfl, ?_⟩) | refine Or.inr (Or.inl (VCz.of b4 ?_)) | refine VCf.mk ⟨_, _, c1, rfl, ?_⟩ | refine Or.inl (VCf.mk ⟨_, _, c1, rfl, ?_⟩) | refine Or.inr (Or.inl (VCz.of c1 ?_)) | refine VCf.mk ⟨_, _, c2, rfl, ?_⟩ | refine Or.inl (VCf.mk ⟨_, _, c2, rfl, ?_⟩) | refine Or.inr (Or.inl (VCz.of c2 ?_)) | refine VCf.mk ⟨_, _, d1, rfl, ?_⟩ | refine Or.inl (VCf.mk ⟨_, _, d1, rfl, ?_⟩) | refine Or.inr (Or.inl (VCz.of d1 ?_)) | refine VCf.mk ⟨_, _, p1, rfl, ?_⟩ | refine Or.inl (VCf.mk ⟨_, _, p1, rfl, ?_⟩) | refine Or.inr (Or.inl (VCz.of p1 ?_)) | refine VCf.mk ⟨_, _, p2, rfl, ?_⟩ | refine Or.inl (VCf.mk ⟨_, _, p2, rfl, ?_⟩) | refine Or.inr (Or.inl (VCz.of p2 ?_)) | refine VCf.mk ⟨_, _, p3, rfl, ?_⟩ | refine Or.inl (VCf.mk ⟨_, _, p3, rfl, ?_⟩) | refine Or.inr (Or.inl (VCz.of p3 ?_)) | refine VCf.mk ⟨_, _, s1, rfl, ?_⟩ | refine Or.inl (VCf.mk ⟨_, _, s1, rfl, ?_⟩) | refine Or.inr (Or.inl (VCz.of s1 ?_)) | refine VCf.mk ⟨_, _, s2, rfl, ?_⟩ | refine Or.inl (VCf.mk ⟨_, _, s2, rfl, ?_⟩) | refine Or.inr (Or.inl (VCz.of s2 ?_)) | refine VCf.mk ⟨_, _, s3, rfl, ?_⟩ | refine Or.inl (VCf.mk ⟨_, _, s3, rfl, ?_⟩) | refine Or.inr (Or.inl (VCz.of s3 ?_)) | refine VCf.mk ⟨_, _, s4, rfl, ?_⟩ | refine Or.inl (VCf.mk ⟨_, _, s4, rfl, ?_⟩) | refine Or.inr (Or.inl (VCz.of s4 ?_)) | fail) <;> (try conv => whnf))
    all_goals trace_state
end Go.Proofs.Ytpifafhcjloncaa
