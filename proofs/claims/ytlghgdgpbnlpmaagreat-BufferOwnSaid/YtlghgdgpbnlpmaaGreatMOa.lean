/- What is proved: an arena: many own rows at once, into which own rows go, and out of which they come. Conditions: none. -/
import Derived.Test.YtlghgdgpbnlpmaaGreatWk
namespace Go.Proofs.YtlghgdgpbnlpmaaGreat
open Go.RowKit
set_option linter.unusedVariables false
/-- a row goes into the bag -/
theorem Sees.bagIn {e : Ent} {H : Hp} {L : List Piece} {w : World} {r : RowD} {rs : List RowD} (h : Sees e H (.row r.v r.E r.k r.rows :: .bag rs :: L) w) : Sees e H (.bag (r :: rs) :: L) w := by
  have hp := List.pairwise_cons.1 h.pw
  have hp2 := List.pairwise_cons.1 hp.2
  have h1 : r.holds w := h.holds _ (List.mem_cons_self ..)
  have h2 := h.holds _ (List.mem_cons_of_mem _ (List.mem_cons_self ..))
  have hrow : ∀ b, r.hasB b → (Piece.row r.v r.E r.k r.rows).hasB b := fun b hb => hb
  refine ⟨h.os, h.tape, h.output, h.size, h.keep, h.le0, h.le, h.new, ?_, ?_, ?_, ?_⟩
  · intro p hm
    rcases List.mem_cons.1 hm with rfl | hm
    · refine ⟨fun x hx => ?_, List.pairwise_cons.2 ⟨fun x hx b hb hxb => ?_, h2.2⟩⟩
      · rcases List.mem_cons.1 hx with rfl | hx
        · exact h1
        · exact h2.1 x hx
      · exact hp.1 _ (List.mem_cons_self ..) b (hrow b hb) ⟨x, hx, hxb⟩
    · exact h.holds p (List.mem_cons_of_mem _ (List.mem_cons_of_mem _ hm))
  · intro p hm b hb
    rcases List.mem_cons.1 hm with rfl | hm
    · obtain ⟨x, hx, hxb⟩ := hb
      rcases List.mem_cons.1 hx with rfl | hx
      · exact h.apart _ (List.mem_cons_self ..) b hxb
      · exact h.apart _ (List.mem_cons_of_mem _ (List.mem_cons_self ..)) b ⟨x, hx, hxb⟩
    · exact h.apart p (List.mem_cons_of_mem _ (List.mem_cons_of_mem _ hm)) b hb
  · refine List.pairwise_cons.2 ⟨fun q hq b hb hqb => ?_, hp2.2⟩
    obtain ⟨x, hx, hxb⟩ := hb
    rcases List.mem_cons.1 hx with rfl | hx
    · exact hp.1 q (List.mem_cons_of_mem _ hq) b hxb hqb
    · exact hp2.1 q hq b ⟨x, hx, hxb⟩ hqb
  · intro p hm b hb
    rcases List.mem_cons.1 hm with rfl | hm
    · obtain ⟨x, hx, hxb⟩ := hb
      rcases List.mem_cons.1 hx with rfl | hx
      · exact h.from_ _ (List.mem_cons_self ..) b hxb
      · exact h.from_ _ (List.mem_cons_of_mem _ (List.mem_cons_self ..)) b ⟨x, hx, hxb⟩
    · exact h.from_ p (List.mem_cons_of_mem _ (List.mem_cons_of_mem _ hm)) b hb
/-- a row comes out of the bag -/
theorem Sees.bagOut {e : Ent} {H : Hp} {L : List Piece} {w : World} {r : RowD} {rs : List RowD} (h : Sees e H (.bag (r :: rs) :: L) w) : Sees e H (.row r.v r.E r.k r.rows :: .bag rs :: L) w := by
  have hp := List.pairwise_cons.1 h.pw
  have h2 := h.holds _ (List.mem_cons_self ..)
  have h3 := List.pairwise_cons.1 h2.2
  refine ⟨h.os, h.tape, h.output, h.size, h.keep, h.le0, h.le, h.new, ?_, ?_, ?_, ?_⟩
  · intro p hm
    rcases List.mem_cons.1 hm with rfl | hm
    · exact h2.1 r (List.mem_cons_self ..)
    · rcases List.mem_cons.1 hm with rfl | hm
      · exact ⟨fun x hx => h2.1 x (List.mem_cons_of_mem _ hx), h3.2⟩
      · exact h.holds p (List.mem_cons_of_mem _ hm)
  · intro p hm b hb
    rcases List.mem_cons.1 hm with rfl | hm
    · exact h.apart _ (List.mem_cons_self ..) b ⟨r, List.mem_cons_self .., hb⟩
    · rcases List.mem_cons.1 hm with rfl | hm
      · obtain ⟨x, hx, hxb⟩ := hb
        exact h.apart _ (List.mem_cons_self ..) b ⟨x, List.mem_cons_of_mem _ hx, hxb⟩
      · exact h.apart p (List.mem_cons_of_mem _ hm) b hb
  · refine List.pairwise_cons.2 ⟨fun q hq b hb hqb => ?_, List.pairwise_cons.2 ⟨fun q hq b hb hqb => ?_, hp.2⟩⟩
    · rcases List.mem_cons.1 hq with rfl | hq
      · obtain ⟨x, hx, hxb⟩ := hqb
        exact h3.1 x hx b hb hxb
      · exact hp.1 q hq b ⟨r, List.mem_cons_self .., hb⟩ hqb
    · obtain ⟨x, hx, hxb⟩ := hb
      exact hp.1 q hq b ⟨x, List.mem_cons_of_mem _ hx, hxb⟩ hqb
  · intro p hm b hb
    rcases List.mem_cons.1 hm with rfl | hm
    · exact h.from_ _ (List.mem_cons_self ..) b ⟨r, List.mem_cons_self .., hb⟩
    · rcases List.mem_cons.1 hm with rfl | hm
      · obtain ⟨x, hx, hxb⟩ := hb
        exact h.from_ _ (List.mem_cons_self ..) b ⟨x, List.mem_cons_of_mem _ hx, hxb⟩
      · exact h.from_ p (List.mem_cons_of_mem _ hm) b hb
/-- the bag in another order -/
theorem apartR.symm {r s : RowD} (h : apartR r s) : apartR s r := fun b hs hr => h b hr hs
theorem Sees.bagPerm {e : Ent} {H : Hp} {L : List Piece} {w : World} {rs rs' : List RowD} (hp : rs.Perm rs') (h : Sees e H (.bag rs :: L) w) : Sees e H (.bag rs' :: L) w := by
  have hpw := List.pairwise_cons.1 h.pw
  have h2 := h.holds _ (List.mem_cons_self ..)
  have hb' : ∀ b, (Piece.bag rs').hasB b → (Piece.bag rs).hasB b := fun b ⟨x, hx, hxb⟩ => ⟨x, hp.mem_iff.2 hx, hxb⟩
  refine ⟨h.os, h.tape, h.output, h.size, h.keep, h.le0, h.le, h.new, ?_, ?_, ?_, ?_⟩
  · intro p hm
    rcases List.mem_cons.1 hm with rfl | hm
    · exact ⟨fun x hx => h2.1 x (hp.mem_iff.2 hx), (hp.pairwise_iff apartR.symm).1 h2.2⟩
    · exact h.holds p (List.mem_cons_of_mem _ hm)
  · intro p hm b hb
    rcases List.mem_cons.1 hm with rfl | hm
    · exact h.apart _ (List.mem_cons_self ..) b (hb' b hb)
    · exact h.apart p (List.mem_cons_of_mem _ hm) b hb
  · exact List.pairwise_cons.2 ⟨fun q hq b hb => hpw.1 q hq b (hb' b hb), hpw.2⟩
  · intro p hm b hb
    rcases List.mem_cons.1 hm with rfl | hm
    · exact h.from_ _ (List.mem_cons_self ..) b (hb' b hb)
    · exact h.from_ p (List.mem_cons_of_mem _ hm) b hb
/-- fewer rows -/
theorem Sees.bagSub {e : Ent} {H : Hp} {L : List Piece} {w : World} {rs rs' : List RowD} (hs : rs'.Sublist rs) (h : Sees e H (.bag rs :: L) w) : Sees e H (.bag rs' :: L) w := by
  have hpw := List.pairwise_cons.1 h.pw
  have h2 := h.holds _ (List.mem_cons_self ..)
  have hb' : ∀ b, (Piece.bag rs').hasB b → (Piece.bag rs).hasB b := fun b ⟨x, hx, hxb⟩ => ⟨x, hs.subset hx, hxb⟩
  refine ⟨h.os, h.tape, h.output, h.size, h.keep, h.le0, h.le, h.new, ?_, ?_, ?_, ?_⟩
  · intro p hm
    rcases List.mem_cons.1 hm with rfl | hm
    · exact ⟨fun x hx => h2.1 x (hs.subset hx), h2.2.sublist hs⟩
    · exact h.holds p (List.mem_cons_of_mem _ hm)
  · intro p hm b hb
    rcases List.mem_cons.1 hm with rfl | hm
    · exact h.apart _ (List.mem_cons_self ..) b (hb' b hb)
    · exact h.apart p (List.mem_cons_of_mem _ hm) b hb
  · exact List.pairwise_cons.2 ⟨fun q hq b hb => hpw.1 q hq b (hb' b hb), hpw.2⟩
  · intro p hm b hb
    rcases List.mem_cons.1 hm with rfl | hm
    · exact h.from_ _ (List.mem_cons_self ..) b (hb' b hb)
    · exact h.from_ p (List.mem_cons_of_mem _ hm) b hb
/-- a slice, as it is -/
def svA : Value → AV
  | .slice a n c => .sval a n c
  | _ => .junk
theorem svA_V {E : Env} {a : Option Addr} {n c : Nat} : V E (svA (.slice a n c)) (.slice a n c) := by simp only [svA, V]
/-- rows that say the same in every memory -/
def RowsV (rows : List (List AV)) (rs : List (List Value)) : Prop := ∀ E : Env, VLL E rows rs
/-- an answer's two own rows go into the arena -/
theorem AFn.into {P : Program} {f : FuncId} {args : List AV} {Ps : List RowD} {R R' : AV → List AP → Prop} (ha : AFn P f args [.bag 0 Ps] R)
    (hR : ∀ r h', R r h' → ∃ Q T1 k1 rows1 T2 k2 rows2, r = .agg [.own 1 rows1.length, .own 2 rows2.length] ∧ h' = [.bag 0 Q, .row 1 T1 k1 rows1, .row 2 T2 k2 rows2] ∧
      ∀ E a1 c1 a2 c2 rs1 rs2, VLL (Env.fz E) rows1 rs1 → VLL (Env.fz E) rows2 rs2 → R' (.agg [.sval a1 rows1.length c1, .sval a2 rows2.length c2]) [.bag 0 (⟨.slice a1 rows1.length c1, T1, k1, rs1⟩ :: ⟨.slice a2 rows2.length c2, T2, k2, rs2⟩ :: Q)]) : AFn P f args [.bag 0 Ps] R' := by
  intro E vs L hnx hvs hh
  obtain ⟨h1, h2⟩ := ha E vs L hnx hvs hh
  refine ⟨h1, fun w hs => (h2 w hs).mono ?_⟩
  rintro x w' ⟨v, H', O, hx, hse, E', r, h', rfl, hE, hv, hh', hn, hr0⟩
  obtain ⟨Q, T1, k1, rows1, T2, k2, rows2, rfl, rfl, hR2⟩ := hR r h' hr0
  simp only [VH, VP] at hh'
  obtain ⟨_, _, rfl, ⟨_, rfl⟩, _, _, rfl, ⟨_, ⟨a1, c1, hg1⟩, rs1, rfl, hr1⟩, _, _, rfl, ⟨_, ⟨a2, c2, hg2⟩, rs2, rfl, hr2⟩, rfl⟩ := hh'
  rw [hg1, hg2] at hse
  have hs1 := (hse.perm (L' := [.row (.slice a2 rows2.length c2) T2 k2 rs2, .bag Q, .row (.slice a1 rows1.length c1) T1 k1 rs1]) (by
    refine (List.Perm.cons _ (List.Perm.swap _ _ _)).trans ?_
    exact List.Perm.swap _ _ _)).bagIn (r := ⟨.slice a2 rows2.length c2, T2, k2, rs2⟩)
  have hs2 := (hs1.perm (L' := [.row (.slice a1 rows1.length c1) T1 k1 rs1, .bag (⟨.slice a2 rows2.length c2, T2, k2, rs2⟩ :: Q)]) (List.Perm.swap _ _ _)).bagIn (r := ⟨.slice a1 rows1.length c1, T1, k1, rs1⟩)
  simp only [V, VL] at hv
  obtain ⟨us, rfl, u1, us', rfl, ⟨_, hu1, _⟩, u2, us'', rfl, ⟨_, hu2, _⟩, rfl⟩ := hv
  rw [hg1] at hu1
  rw [hg2] at hu2
  subst hu1
  subst hu2
  refine ⟨_, E'.H, _, hx, hs2, ⟨E'.H, E'.m, E'.g, 1⟩, _, _, rfl, ⟨hE.H, by rw [hnx]; exact Nat.le_refl _, fun i hi => hE.m i hi, fun i hi => hE.g i hi⟩, ?_, ?_, ?_, hR2 E'.H a1 c1 a2 c2 rs1 rs2 hr1 hr2⟩
  · simp only [V, VL]
    exact ⟨_, rfl, _, _, rfl, rfl, _, _, rfl, rfl, rfl⟩
  · simp only [VH, VP]
    exact ⟨_, _, rfl, ⟨Nat.lt_irrefl 0 |> fun _ => by decide, rfl⟩, rfl⟩
  · rfl
end Go.Proofs.YtlghgdgpbnlpmaaGreat
/- What is proved: what lies in an arena may be lent to a function that only reads. Conditions: none. -/
namespace Go.Proofs.YtlghgdgpbnlpmaaGreat
open Go.RowKit
set_option linter.unusedVariables false
/-- lent to a function whose answer lies in no memory -/
theorem AFn.lend {P : Program} {f : FuncId} {A A' : List AV} {Q : List RowD} {r : AV} {u : Value} (hcall : ∀ (args : Array Value) w, (callFunc f args).run P w = .ok (.enter f args) w) (h : AFnP P f A r) (hu : flatV r = some u)
    (hA : ∀ (E : Env) (w : World) vs, Hp.le E.H (hp w) → (Piece.bag Q).holds w → VL E A' vs → VFL (hp w) A vs) : AFn P f A' [.bag 0 Q] (fun r' h' => r' = r ∧ h' = [.bag 0 Q]) := by
  intro E vs L hnx hvs hh
  have hh0 := hh
  simp only [VH, VP] at hh
  obtain ⟨_, _, rfl, ⟨h0, rfl⟩, rfl⟩ := hh
  refine ⟨hcall, fun w hs => ((h (hp w) vs (hA E w vs hs.le (hs.holds _ (List.mem_cons_self ..)) hvs)).2 w (Sees.enterB w)).mono ?_⟩
  rintro x w' ⟨v, H', O, hx, hse, hv⟩
  have h2 := hs.leaveB hse
  have h3 := h2.sub (List.sublist_append_right O _)
  have h4 := (flatV_spec _ r u hu).2 v hv
  subst h4
  exact ⟨v, E.H, _, hx, h3, E, r, [.bag 0 Q], rfl, Env.le.refl E, (flatV_spec E r v hu).1, hh0, by rw [hnx]; rfl, rfl, rfl⟩
theorem ownB_nilbag : ownB [.bag []] = ownB [] := by
  funext b
  refine propext ⟨fun ⟨p, hp, hb⟩ => ?_, fun ⟨p, hp, hb⟩ => by cases hp⟩
  rw [List.mem_singleton] at hp
  subst hp
  obtain ⟨x, hx, _⟩ := hb
  cases hx
theorem enterBag (w : World) : Sees ⟨w, hp w, ownB [.bag []]⟩ (hp w) [.bag []] w := by
  have hno : ∀ p ∈ ([.bag []] : List Piece), ∀ b, ¬ p.hasB b := fun p hm b hb => by
    rw [List.mem_singleton] at hm
    subst hm
    obtain ⟨x, hx, _⟩ := hb
    cases hx
  refine ⟨rfl, rfl, rfl, Nat.le_refl _, fun _ _ _ => rfl, Hp.le.refl _, Hp.le.refl _, fun _ hb => .inl hb, fun p hm => ?_, fun p hm b hb => absurd hb (hno p hm b), List.pairwise_singleton _ _, fun p hm b hb => absurd hb (hno p hm b)⟩
  rw [List.mem_singleton] at hm
  subst hm
  exact ⟨fun r hr => (by cases hr), List.Pairwise.nil⟩
/-- lent to a function whose answer goes into an arena of its own: that answer is frozen then, and what was lent is there as it was -/
theorem AFn.lendC {P : Program} {f : FuncId} {A A' : List AV} {Q : List RowD} {R : AV → List AP → Prop} {r0 : AV} (hcall : ∀ (args : Array Value) w, (callFunc f args).run P w = .ok (.enter f args) w) (h : AFn P f A [.bag 0 []] R)
    (hA : ∀ (E : Env) (w : World) vs, Hp.le E.H (hp w) → (Piece.bag Q).holds w → VL E A' vs → VFL (hp w) A vs)
    (hR : ∀ r h', R r h' → ∃ Q', h' = [.bag 0 Q'] ∧ ∀ (E : Env) v w, (Piece.bag Q').holds w → (∀ b, (Piece.bag Q').hasB b → E.H b = w.heap[b]?) → V ⟨hp w, E.m, E.g, 1⟩ r v → VF E.H r0 v) : AFn P f A' [.bag 0 Q] (fun r' h' => r' = r0 ∧ h' = [.bag 0 Q]) := by
  intro E vs L hnx hvs hh
  have hh0 := hh
  simp only [VH, VP] at hh
  obtain ⟨_, _, rfl, ⟨h0, rfl⟩, rfl⟩ := hh
  refine ⟨hcall, fun w hs => ?_⟩
  have hvs' := hA E w vs hs.le (hs.holds _ (List.mem_cons_self ..)) hvs
  have hvs2 : VL ⟨hp w, fun _ => 0, fun _ => .nilFunc, 1⟩ A vs := VL.mono hvs' ⟨Hp.le.refl _, Nat.zero_le _, fun i hi => absurd hi (Nat.not_lt_zero i), fun i hi => absurd hi (Nat.not_lt_zero i)⟩
  refine ((h ⟨hp w, fun _ => 0, fun _ => .nilFunc, 1⟩ vs [.bag []] rfl hvs2 (by simp only [VH, VP]; exact ⟨_, _, rfl, ⟨Nat.zero_lt_one, rfl⟩, rfl⟩)).2 w (enterBag w)).mono ?_
  rintro x w' ⟨v, H', O, hx, hse, E', r, h', rfl, hE, hv, hh', hn, hr0⟩
  obtain ⟨Q', rfl, hV⟩ := hR r h' hr0
  simp only [VH, VP] at hh'
  obtain ⟨_, _, rfl, ⟨_, rfl⟩, rfl⟩ := hh'
  rw [ownB_nilbag] at hse
  have h2 := hs.leaveB hse
  obtain ⟨H2, h3, h4, h5⟩ := h2.freeze (p := .bag Q') (L1 := [.bag Q]) (List.Perm.refl _)
  have hQ := hse.holds _ (List.mem_cons_self ..)
  have hn1 : E'.nx = 1 := by rw [hn]; rfl
  have hv2 : V ⟨hp w', E'.m, E'.g, 1⟩ r v := hv.mono ⟨hse.le, by rw [hn1]; exact Nat.le_refl _, fun _ _ => rfl, fun _ _ => rfl⟩
  have hf := hV { E' with H := H2 } v w' hQ h5 hv2
  refine ⟨v, H2, _, hx, h4, { E with H := H2 }, r0, [.bag 0 Q], rfl, ⟨h3, Nat.le_refl _, fun _ _ => rfl, fun _ _ => rfl⟩, hf.mono (Env.le.of (Hp.le.refl _)), ?_, by show E.nx = _; rw [hnx]; rfl, rfl, rfl⟩
  simp only [VH, VP]
  exact ⟨_, _, rfl, ⟨h0, rfl⟩, rfl⟩
end Go.Proofs.YtlghgdgpbnlpmaaGreat
/- What is proved: an answer's last cell, an own row, goes into the arena. Conditions: none. -/
namespace Go.Proofs.YtlghgdgpbnlpmaaGreat
open Go.RowKit
set_option linter.unusedVariables false
theorem VL_appI {E : Env} : ∀ {al bs : List AV} {us : List Value}, VL E (al ++ bs) us → ∃ u1 u2, us = u1 ++ u2 ∧ VL E al u1 ∧ VL E bs u2
  | [], bs, us, h => ⟨[], us, rfl, by simp [VL], h⟩
  | a :: al, bs, us, h => by
    simp only [List.cons_append, VL] at h
    obtain ⟨u, us', rfl, h1, h2⟩ := h
    obtain ⟨u1, u2, rfl, h3, h4⟩ := VL_appI h2
    exact ⟨u :: u1, u2, rfl, by simp only [VL]; exact ⟨u, u1, rfl, h1, h3⟩, h4⟩
/-- an answer's last cell, an own row, goes into the arena -/
theorem AFn.into1 {P : Program} {f : FuncId} {args : List AV} {Ps : List RowD} {R R' : AV → List AP → Prop} (ha : AFn P f args [.bag 0 Ps] R)
    (hR : ∀ r h', R r h' → ∃ cs us Q T1 k1 rows1, flatL cs = some us ∧ r = .agg (cs ++ [.own 1 rows1.length]) ∧ h' = [.bag 0 Q, .row 1 T1 k1 rows1] ∧
      ∀ E a1 c1 rs1, VLL (Env.fz E) rows1 rs1 → R' (.agg (cs ++ [.sval a1 rows1.length c1])) [.bag 0 (⟨.slice a1 rows1.length c1, T1, k1, rs1⟩ :: Q)]) : AFn P f args [.bag 0 Ps] R' := by
  intro E vs L hnx hvs hh
  obtain ⟨h1, h2⟩ := ha E vs L hnx hvs hh
  refine ⟨h1, fun w hs => (h2 w hs).mono ?_⟩
  rintro x w' ⟨v, H', O, hx, hse, E', r, h', rfl, hE, hv, hh', hn, hr0⟩
  obtain ⟨cs, us, Q, T1, k1, rows1, hfl, rfl, rfl, hR2⟩ := hR r h' hr0
  simp only [VH, VP] at hh'
  obtain ⟨_, _, rfl, ⟨_, rfl⟩, _, _, rfl, ⟨_, ⟨a1, c1, hg1⟩, rs1, rfl, hr1⟩, rfl⟩ := hh'
  rw [hg1] at hse
  have hs1 := (hse.perm (L' := [.row (.slice a1 rows1.length c1) T1 k1 rs1, .bag Q]) (List.Perm.swap _ _ _)).bagIn (r := ⟨.slice a1 rows1.length c1, T1, k1, rs1⟩)
  simp only [V] at hv
  obtain ⟨us', rfl, hvl⟩ := hv
  obtain ⟨u1, u2, rfl, hv1, hv2⟩ := VL_appI hvl
  simp only [VL, V] at hv2
  obtain ⟨u, u', rfl, ⟨_, hu1, _⟩, rfl⟩ := hv2
  rw [hg1] at hu1
  subst hu1
  obtain ⟨hf1, hf2⟩ := flatL_spec E' cs us hfl
  obtain rfl := hf2 u1 hv1
  refine ⟨_, E'.H, _, hx, hs1, ⟨E'.H, E'.m, E'.g, 1⟩, _, _, rfl, ⟨hE.H, by rw [hnx]; exact Nat.le_refl _, fun i hi => hE.m i hi, fun i hi => hE.g i hi⟩, ?_, ?_, ?_, hR2 E'.H a1 c1 rs1 hr1⟩
  · simp only [V]
    refine ⟨_, rfl, VL_append (flatL_spec _ cs u1 hfl).1 ?_⟩
    simp only [VL, V]
    exact ⟨_, _, rfl, rfl, rfl⟩
  · simp only [VH, VP]
    exact ⟨_, _, rfl, ⟨by decide, rfl⟩, rfl⟩
  · rfl
end Go.Proofs.YtlghgdgpbnlpmaaGreat
