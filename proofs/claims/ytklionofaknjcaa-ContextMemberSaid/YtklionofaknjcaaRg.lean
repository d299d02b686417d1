/- What is proved: what chapter 06's reference Of and By answer. Conditions: none. -/
import Derived.Test.YtklionofaknjcaaRf
namespace Go.Proofs.Ytklionofaknjcaa
open Go.RowKit
set_option linter.unusedVariables false
set_option linter.unusedSimpArgs false
set_option maxRecDepth 100000
set_option maxHeartbeats 8000000
theorem cnt_step {p x : Int} (h : p < x) : ∀ {l : List Int}, x ∈ l → l.countP (fun z => decide (z ≤ p)) + 1 ≤ l.countP (fun z => decide (z ≤ x))
  | z :: l, hx => by
    have hm : l.countP (fun z => decide (z ≤ p)) ≤ l.countP (fun z => decide (z ≤ x)) := List.countP_mono_left fun y _ hy => by simp only [decide_eq_true_eq] at hy ⊢; omega
    rw [List.countP_cons, List.countP_cons]
    by_cases hz : z = x
    · subst hz
      have h1 : decide (z ≤ p) = false := decide_eq_false (by omega)
      have h2 : decide (z ≤ z) = true := decide_eq_true (Int.le_refl _)
      simp only [h1, h2, if_true, Bool.false_eq_true, if_false]
      omega
    · have hx' : x ∈ l := by
        rcases List.mem_cons.1 hx with h' | h'
        · exact absurd h'.symm hz
        · exact h'
      have ih := cnt_step h hx'
      have : (if decide (z ≤ p) = true then 1 else 0) ≤ (if decide (z ≤ x) = true then 1 else 0) := by
        by_cases h1 : z ≤ p
        · have h2 : z ≤ x := by omega
          simp [h1, h2]
        · simp [h1]
      omega
structure ROf (l : List Int) (r : AV) : Prop where
  ex : ∃ out, IsOf l out ∧ out.length ≤ l.length ∧ r = lstE runE out
theorem rof_a (l : List Int) (hn : l.length ≤ 1000000) (hok : l.all okNum = true) : AFnR Try.prog 45 [lstE intE l] (ROf l) := by
  have hok2 : ∀ x ∈ l, 1 ≤ x ∧ x ≤ 1099511627776 := fun x hx => by
    have := List.all_eq_true.1 hok x hx
    simpa only [okNum, Bool.and_eq_true, decide_eq_true_eq] using this
  refine afnr_in ty_ok Try.call45 Try.func45 rfl rfl (by decide +kernel) ?_
  (try conv => whnf)<;>repeat' ((first|(refine VS.mk ?_;intro t ht;cases t<;>(first|replace ht := of_decide_eq_true ht|replace ht := of_decide_eq_false ht|replace ht := beq_iff_eq.1 ht|replace ht := beq_eq_false_iff_ne.1 ht|replace ht := bne_iff_ne.1 ht|replace ht := bne_eq_false_iff_eq.1 ht|skip)<;>(first|(exfalso;omega)|(cases ht;done)|exact absurd rfl ht|exact absurd (ht.symm.trans (by assumption : _ = false)) (by decide)|exact absurd (ht.symm.trans (by assumption : _ = true)) (by decide)|skip))|refine VWr.mk ⟨_,wrap_in ⟨by omega,by omega⟩,?_⟩|refine VIx.mk ⟨_,_,rfl,getE (by omega),rfl,?_⟩|refine VIx.mk ⟨_,_,by assumption,getE (by omega),rfl,?_⟩|refine VIx.mk ⟨Int.toNat _,_,(Int.toNat_of_nonneg (by omega)).symm,getE (by omega),rfl,?_⟩|refine VIx.mk ⟨_,_,rfl,by assumption,rfl,?_⟩|refine VIx.mk ⟨Int.toNat _,_,rfl,rfl,rfl,?_⟩|refine VIx.mk ⟨0,_,rfl,rfl,rfl,?_⟩|refine VIx.mk ⟨1,_,rfl,rfl,rfl,?_⟩|refine VIx.mk ⟨2,_,rfl,rfl,rfl,?_⟩|refine VIx.mk ⟨3,_,rfl,rfl,rfl,?_⟩|refine VAt.mk ⟨_,rfl,by omega,?_⟩|refine VAt.mk ⟨_,by assumption,by omega,?_⟩|refine VAt.mk ⟨0,rfl,by decide,?_⟩|refine VAt.mk ⟨1,rfl,by decide,?_⟩|refine VAt.mk ⟨2,rfl,by decide,?_⟩|refine VAt.mk ⟨3,rfl,by decide,?_⟩|refine VAt.mk ⟨Int.toNat _,rfl,by decide,?_⟩|refine VAt.mk ⟨Int.toNat _,(Int.toNat_of_nonneg (by omega)).symm,by omega,?_⟩|refine VRow.mk ⟨_,by assumption,?_⟩|refine VRow.mk ⟨_,getE (by omega),?_⟩|refine VRow.mk ⟨_,rfl,?_⟩|refine VApp.mk (by first|exact rok_lit rfl|exact rok_map (fun _ => ⟨rfl,rfl⟩)) (by omega) ?_|refine Or.inl (VDr.mk ⟨[],[],[],by decide +kernel,?_⟩)|(refine Or.inl (VSl.of ?_ ?_ ?_ ?_ (by first|exact len_map (fun _ => rfl)|exact len_lit rfl) ?_);· exact rfl;· exact rfl;· omega;· omega)|refine Or.inl (VSn.mk ⟨by first|rfl|omega,by first|rfl|omega,?_⟩)|refine Or.inr (VSo.mk ⟨_,rfl,rfl,by omega,?_⟩)|refine Or.inr (VSo.mk ⟨0,rfl,rfl,by omega,?_⟩)|refine VAz.mk ⟨_,rfl,by omega,by omega,?_⟩|refine VAz.mk ⟨Int.toNat _,(Int.toNat_of_nonneg (by omega)).symm,by omega,by omega,?_⟩|refine VCf.mk ⟨_,_,next_a l hn _,rfl,?_⟩|refine Or.inl (VCf.mk ⟨_,_,next_a l hn _,rfl,?_⟩)|refine Or.inr (Or.inl (VCz.of (next_a l hn _) ?_))|fail)<;>(try conv => whnf))
  all_goals
    refine VLp.mk ⟨[.slot 3 73 2], [], [3, 4, 5], fun k vs h => ∃ (prev : Int) (out : List (Int × Int)), vs = [.own 0 out.length, i64 ((l.foldl (nextF prev) none).getD 0), .bool (l.foldl (nextF prev) none).isSome] ∧ h = [.row 0 73 2 (out.map runE)] ∧ 0 ≤ prev ∧ k = (1099511627776 - prev).toNat ∧ RightP out ∧ (∀ y, hasL out y ↔ y ∈ l ∧ y ≤ prev) ∧ out.length ≤ l.countP (fun z => decide (z ≤ prev)), 1099511627776, ?_⟩
    conv => whnf
    refine ⟨⟨0, [], by rw [ht]; rfl, rfl, by omega, by omega, ⟨by simp, List.Pairwise.nil⟩, fun y => ⟨fun h => absurd h not_hasL_nil, fun ⟨h1, h2⟩ => by have := hok2 y h1; omega⟩, Nat.zero_le _⟩, ?_⟩
    rintro k vs h ⟨prev, out, rfl, rfl, hp0, rfl, hR, hm, hlen⟩
    have hsp := next_spec (above := prev) l none (by simp)
    cases hcur : l.foldl (nextF prev) none with
    | none =>
      rw [hcur] at hsp
      (try conv => whnf)<;>repeat' ((first|(refine VS.mk ?_;intro t ht;cases t<;>(first|replace ht := of_decide_eq_true ht|replace ht := of_decide_eq_false ht|replace ht := beq_iff_eq.1 ht|replace ht := beq_eq_false_iff_ne.1 ht|replace ht := bne_iff_ne.1 ht|replace ht := bne_eq_false_iff_eq.1 ht|skip)<;>(first|(exfalso;omega)|(cases ht;done)|exact absurd rfl ht|exact absurd (ht.symm.trans (by assumption : _ = false)) (by decide)|exact absurd (ht.symm.trans (by assumption : _ = true)) (by decide)|skip))|refine VWr.mk ⟨_,wrap_in ⟨by omega,by omega⟩,?_⟩|refine VIx.mk ⟨_,_,rfl,getE (by omega),rfl,?_⟩|refine VIx.mk ⟨_,_,by assumption,getE (by omega),rfl,?_⟩|refine VIx.mk ⟨Int.toNat _,_,(Int.toNat_of_nonneg (by omega)).symm,getE (by omega),rfl,?_⟩|refine VIx.mk ⟨_,_,rfl,by assumption,rfl,?_⟩|refine VIx.mk ⟨Int.toNat _,_,rfl,rfl,rfl,?_⟩|refine VIx.mk ⟨0,_,rfl,rfl,rfl,?_⟩|refine VIx.mk ⟨1,_,rfl,rfl,rfl,?_⟩|refine VIx.mk ⟨2,_,rfl,rfl,rfl,?_⟩|refine VIx.mk ⟨3,_,rfl,rfl,rfl,?_⟩|refine VAt.mk ⟨_,rfl,by omega,?_⟩|refine VAt.mk ⟨_,by assumption,by omega,?_⟩|refine VAt.mk ⟨0,rfl,by decide,?_⟩|refine VAt.mk ⟨1,rfl,by decide,?_⟩|refine VAt.mk ⟨2,rfl,by decide,?_⟩|refine VAt.mk ⟨3,rfl,by decide,?_⟩|refine VAt.mk ⟨Int.toNat _,rfl,by decide,?_⟩|refine VAt.mk ⟨Int.toNat _,(Int.toNat_of_nonneg (by omega)).symm,by omega,?_⟩|refine VRow.mk ⟨_,by assumption,?_⟩|refine VRow.mk ⟨_,getE (by omega),?_⟩|refine VRow.mk ⟨_,rfl,?_⟩|refine VApp.mk (by first|exact rok_lit rfl|exact rok_map (fun _ => ⟨rfl,rfl⟩)) (by omega) ?_|refine Or.inl (VDr.mk ⟨[],[],[],by decide +kernel,?_⟩)|(refine Or.inl (VSl.of ?_ ?_ ?_ ?_ (by first|exact len_map (fun _ => rfl)|exact len_lit rfl) ?_);· exact rfl;· exact rfl;· omega;· omega)|refine Or.inl (VSn.mk ⟨by first|rfl|omega,by first|rfl|omega,?_⟩)|refine Or.inr (VSo.mk ⟨_,rfl,rfl,by omega,?_⟩)|refine Or.inr (VSo.mk ⟨0,rfl,rfl,by omega,?_⟩)|refine VAz.mk ⟨_,rfl,by omega,by omega,?_⟩|refine VAz.mk ⟨Int.toNat _,(Int.toNat_of_nonneg (by omega)).symm,by omega,by omega,?_⟩|fail)<;>(try conv => whnf))
      have hcl := List.countP_le_length (p := fun z => decide (z ≤ prev)) (l := l)
      refine ⟨⟨out, ⟨hR, fun y => ?_⟩, by omega, rfl⟩⟩
      rw [hm y]
      exact ⟨fun h => h.1, fun h => ⟨h, by have := hsp.2 y h; omega⟩⟩
    | some x =>
      rw [hcur] at hsp
      obtain ⟨hlt, hxm, hmin, -⟩ := hsp
      have hx : x ∈ l := by rcases hxm with h | h; cases h; exact h
      have hx1 := hok2 x hx
      obtain ⟨hA, hB⟩ := snoc_spec hR hm hx hlt hmin hx1
      clear hcur
      simp only [Option.getD_some, Option.isSome_some]
      have hcs := cnt_step hlt hx
      have hcl := List.countP_le_length (p := fun z => decide (z ≤ x)) (l := l)
      rcases nil_or_snoc out with rfl | ⟨init, b, rfl⟩
      · obtain ⟨hR2, hm2⟩ := hB (fun init b h => by simp at h)
        have hz : ([] : List (Int × Int)).length = 0 := rfl
        (try conv => whnf)<;>repeat' ((first|(refine VS.mk ?_;intro t ht;cases t<;>(first|replace ht := of_decide_eq_true ht|replace ht := of_decide_eq_false ht|replace ht := beq_iff_eq.1 ht|replace ht := beq_eq_false_iff_ne.1 ht|replace ht := bne_iff_ne.1 ht|replace ht := bne_eq_false_iff_eq.1 ht|skip)<;>(first|(exfalso;omega)|(cases ht;done)|exact absurd rfl ht|exact absurd (ht.symm.trans (by assumption : _ = false)) (by decide)|exact absurd (ht.symm.trans (by assumption : _ = true)) (by decide)|skip))|refine VWr.mk ⟨_,wrap_in ⟨by omega,by omega⟩,?_⟩|refine VIx.mk ⟨_,_,rfl,getE (by omega),rfl,?_⟩|refine VIx.mk ⟨_,_,by assumption,getE (by omega),rfl,?_⟩|refine VIx.mk ⟨Int.toNat _,_,(Int.toNat_of_nonneg (by omega)).symm,getE (by omega),rfl,?_⟩|refine VIx.mk ⟨_,_,rfl,by assumption,rfl,?_⟩|refine VIx.mk ⟨Int.toNat _,_,rfl,rfl,rfl,?_⟩|refine VIx.mk ⟨0,_,rfl,rfl,rfl,?_⟩|refine VIx.mk ⟨1,_,rfl,rfl,rfl,?_⟩|refine VIx.mk ⟨2,_,rfl,rfl,rfl,?_⟩|refine VIx.mk ⟨3,_,rfl,rfl,rfl,?_⟩|refine VAt.mk ⟨_,rfl,by omega,?_⟩|refine VAt.mk ⟨_,by assumption,by omega,?_⟩|refine VAt.mk ⟨0,rfl,by decide,?_⟩|refine VAt.mk ⟨1,rfl,by decide,?_⟩|refine VAt.mk ⟨2,rfl,by decide,?_⟩|refine VAt.mk ⟨3,rfl,by decide,?_⟩|refine VAt.mk ⟨Int.toNat _,rfl,by decide,?_⟩|refine VAt.mk ⟨Int.toNat _,(Int.toNat_of_nonneg (by omega)).symm,by omega,?_⟩|refine VRow.mk ⟨_,by assumption,?_⟩|refine VRow.mk ⟨_,getE (by omega),?_⟩|refine VRow.mk ⟨_,rfl,?_⟩|refine VApp.mk (by first|exact rok_lit rfl|exact rok_map (fun _ => ⟨rfl,rfl⟩)) (by omega) ?_|refine Or.inl (VDr.mk ⟨[],[],[],by decide +kernel,?_⟩)|(refine Or.inl (VSl.of ?_ ?_ ?_ ?_ (by first|exact len_map (fun _ => rfl)|exact len_lit rfl) ?_);· exact rfl;· exact rfl;· omega;· omega)|refine Or.inl (VSn.mk ⟨by first|rfl|omega,by first|rfl|omega,?_⟩)|refine Or.inr (VSo.mk ⟨_,rfl,rfl,by omega,?_⟩)|refine Or.inr (VSo.mk ⟨0,rfl,rfl,by omega,?_⟩)|refine VAz.mk ⟨_,rfl,by omega,by omega,?_⟩|refine VAz.mk ⟨Int.toNat _,(Int.toNat_of_nonneg (by omega)).symm,by omega,by omega,?_⟩|refine VCf.mk ⟨_,_,next_a l hn _,rfl,?_⟩|refine Or.inl (VCf.mk ⟨_,_,next_a l hn _,rfl,?_⟩)|refine Or.inr (Or.inl (VCz.of (next_a l hn _) ?_))|fail)<;>(try conv => whnf))
        all_goals first
          | exact VRd.mk rfl ⟨(1099511627776 - x).toNat, by omega, x, [(x, x)], by rw [ht]; rfl, rfl, by omega, rfl, hR2, hm2, by simp only [List.length_cons, List.length_nil] at hlen ⊢; omega⟩
      · obtain ⟨_, hbo, _⟩ := rightP_snoc.1 hR
        unfold okP at hbo
        have hlen' : (init ++ [b]).length = init.length + 1 := by simp
        have hj : ((init.length + 1 : Nat) : Int) - 1 = (init.length : Int) := by omega
        have hlast : ((init ++ [b]).map runE)[init.length]? = some (runE b) := by simp
        rw [hlen'] at hlen ⊢
        by_cases hb : b.2 = x - 1
        · obtain ⟨hR2, hm2⟩ := hA init b rfl hb
          (try conv => whnf)<;>repeat' ((first|(refine VS.mk ?_;intro t ht;cases t<;>(first|replace ht := of_decide_eq_true ht|replace ht := of_decide_eq_false ht|replace ht := beq_iff_eq.1 ht|replace ht := beq_eq_false_iff_ne.1 ht|replace ht := bne_iff_ne.1 ht|replace ht := bne_eq_false_iff_eq.1 ht|skip)<;>(first|(exfalso;omega)|(cases ht;done)|exact absurd rfl ht|exact absurd (ht.symm.trans (by assumption : _ = false)) (by decide)|exact absurd (ht.symm.trans (by assumption : _ = true)) (by decide)|skip))|refine VWr.mk ⟨_,wrap_in ⟨by omega,by omega⟩,?_⟩|refine VIx.mk ⟨_,_,rfl,getE (by omega),rfl,?_⟩|refine VIx.mk ⟨_,_,by assumption,getE (by omega),rfl,?_⟩|refine VIx.mk ⟨Int.toNat _,_,(Int.toNat_of_nonneg (by omega)).symm,getE (by omega),rfl,?_⟩|refine VIx.mk ⟨_,_,rfl,by assumption,rfl,?_⟩|refine VIx.mk ⟨Int.toNat _,_,rfl,rfl,rfl,?_⟩|refine VIx.mk ⟨0,_,rfl,rfl,rfl,?_⟩|refine VIx.mk ⟨1,_,rfl,rfl,rfl,?_⟩|refine VIx.mk ⟨2,_,rfl,rfl,rfl,?_⟩|refine VIx.mk ⟨3,_,rfl,rfl,rfl,?_⟩|refine VAt.mk ⟨_,rfl,by omega,?_⟩|refine VAt.mk ⟨_,by assumption,by omega,?_⟩|refine VAt.mk ⟨0,rfl,by decide,?_⟩|refine VAt.mk ⟨1,rfl,by decide,?_⟩|refine VAt.mk ⟨2,rfl,by decide,?_⟩|refine VAt.mk ⟨3,rfl,by decide,?_⟩|refine VAt.mk ⟨Int.toNat _,rfl,by decide,?_⟩|refine VAt.mk ⟨Int.toNat _,(Int.toNat_of_nonneg (by omega)).symm,by omega,?_⟩|refine VRow.mk ⟨_,by assumption,?_⟩|refine VRow.mk ⟨_,getE (by omega),?_⟩|refine VRow.mk ⟨_,rfl,?_⟩|refine VApp.mk (by first|exact rok_lit rfl|exact rok_map (fun _ => ⟨rfl,rfl⟩)) (by omega) ?_|refine Or.inl (VDr.mk ⟨[],[],[],by decide +kernel,?_⟩)|(refine Or.inl (VSl.of ?_ ?_ ?_ ?_ (by first|exact len_map (fun _ => rfl)|exact len_lit rfl) ?_);· exact rfl;· exact rfl;· omega;· omega)|refine Or.inl (VSn.mk ⟨by first|rfl|omega,by first|rfl|omega,?_⟩)|refine Or.inr (VSo.mk ⟨_,rfl,rfl,by omega,?_⟩)|refine Or.inr (VSo.mk ⟨0,rfl,rfl,by omega,?_⟩)|refine VAz.mk ⟨_,rfl,by omega,by omega,?_⟩|refine VAz.mk ⟨Int.toNat _,(Int.toNat_of_nonneg (by omega)).symm,by omega,by omega,?_⟩|refine VCf.mk ⟨_,_,next_a l hn _,rfl,?_⟩|refine Or.inl (VCf.mk ⟨_,_,next_a l hn _,rfl,?_⟩)|refine Or.inr (Or.inl (VCz.of (next_a l hn _) ?_))|fail)<;>(try conv => whnf))
          all_goals first
            | exact VRd.mk rfl ⟨(1099511627776 - x).toNat, by omega, x, init ++ [(b.1, x)], by simp [i64, ht], by simp [runE], by omega, rfl, hR2, hm2, by simp; omega⟩
        · obtain ⟨hR2, hm2⟩ := hB (fun i2 b2 h h2 => hb (by
            have := List.append_inj' h rfl
            simp only [List.cons.injEq, and_true] at this
            rw [this.2]; exact h2))
          (try conv => whnf)<;>repeat' ((first|(refine VS.mk ?_;intro t ht;cases t<;>(first|replace ht := of_decide_eq_true ht|replace ht := of_decide_eq_false ht|replace ht := beq_iff_eq.1 ht|replace ht := beq_eq_false_iff_ne.1 ht|replace ht := bne_iff_ne.1 ht|replace ht := bne_eq_false_iff_eq.1 ht|skip)<;>(first|(exfalso;omega)|(cases ht;done)|exact absurd rfl ht|exact absurd (ht.symm.trans (by assumption : _ = false)) (by decide)|exact absurd (ht.symm.trans (by assumption : _ = true)) (by decide)|skip))|refine VWr.mk ⟨_,wrap_in ⟨by omega,by omega⟩,?_⟩|refine VIx.mk ⟨_,_,rfl,getE (by omega),rfl,?_⟩|refine VIx.mk ⟨_,_,by assumption,getE (by omega),rfl,?_⟩|refine VIx.mk ⟨Int.toNat _,_,(Int.toNat_of_nonneg (by omega)).symm,getE (by omega),rfl,?_⟩|refine VIx.mk ⟨_,_,rfl,by assumption,rfl,?_⟩|refine VIx.mk ⟨Int.toNat _,_,rfl,rfl,rfl,?_⟩|refine VIx.mk ⟨0,_,rfl,rfl,rfl,?_⟩|refine VIx.mk ⟨1,_,rfl,rfl,rfl,?_⟩|refine VIx.mk ⟨2,_,rfl,rfl,rfl,?_⟩|refine VIx.mk ⟨3,_,rfl,rfl,rfl,?_⟩|refine VAt.mk ⟨_,rfl,by omega,?_⟩|refine VAt.mk ⟨_,by assumption,by omega,?_⟩|refine VAt.mk ⟨0,rfl,by decide,?_⟩|refine VAt.mk ⟨1,rfl,by decide,?_⟩|refine VAt.mk ⟨2,rfl,by decide,?_⟩|refine VAt.mk ⟨3,rfl,by decide,?_⟩|refine VAt.mk ⟨Int.toNat _,rfl,by decide,?_⟩|refine VAt.mk ⟨Int.toNat _,(Int.toNat_of_nonneg (by omega)).symm,by omega,?_⟩|refine VRow.mk ⟨_,by assumption,?_⟩|refine VRow.mk ⟨_,getE (by omega),?_⟩|refine VRow.mk ⟨_,rfl,?_⟩|refine VApp.mk (by first|exact rok_lit rfl|exact rok_map (fun _ => ⟨rfl,rfl⟩)) (by omega) ?_|refine Or.inl (VDr.mk ⟨[],[],[],by decide +kernel,?_⟩)|(refine Or.inl (VSl.of ?_ ?_ ?_ ?_ (by first|exact len_map (fun _ => rfl)|exact len_lit rfl) ?_);· exact rfl;· exact rfl;· omega;· omega)|refine Or.inl (VSn.mk ⟨by first|rfl|omega,by first|rfl|omega,?_⟩)|refine Or.inr (VSo.mk ⟨_,rfl,rfl,by omega,?_⟩)|refine Or.inr (VSo.mk ⟨0,rfl,rfl,by omega,?_⟩)|refine VAz.mk ⟨_,rfl,by omega,by omega,?_⟩|refine VAz.mk ⟨Int.toNat _,(Int.toNat_of_nonneg (by omega)).symm,by omega,by omega,?_⟩|refine VCf.mk ⟨_,_,next_a l hn _,rfl,?_⟩|refine Or.inl (VCf.mk ⟨_,_,next_a l hn _,rfl,?_⟩)|refine Or.inr (Or.inl (VCz.of (next_a l hn _) ?_))|fail)<;>(try conv => whnf))
          all_goals first
            | exact VRd.mk rfl ⟨(1099511627776 - x).toNat, by omega, x, init ++ [b] ++ [(x, x)], by simp [i64, ht], by simp [runE], by omega, rfl, hR2, hm2, by simp; omega⟩
end Go.Proofs.Ytklionofaknjcaa
