/- What is proved: what lies in an arena may be lent to a function that only reads. Conditions: none. -/
import Derived.Test.YtailblpjmgabjaaAr
namespace Go.Proofs.Ytailblpjmgabjaa
open Go.RowKit
set_option linter.unusedVariables false
/-- lent to a function whose answer lies in no memory -/
theorem AFn.lend {P : Program} {f : FuncId} {A A' : List AV} {Q : List RowD} {r : AV} {u : Value} (hcall : ∀ (args : Array Value) w, (callFunc f args).run P w = .ok (.enter f args) w) (h : AFnP P f A r) (hu : flatV r = some u)
    (hA : ∀ (E : Env) (w : World) vs, Hp.le E.H (hp w) → (Piece.bag Q).holds w → VL E A' vs → VFL (hp w) A vs) : AFn P f A' [.bag 0 Q] (fun r' h' => r' = r ∧ h' = [.bag 0 Q]) := by
  intro E vs L hnx hvs hh
  have hh0 := hh
  simp only [VH, VP] at hh
  obtain ⟨_, _, rfl, ⟨h0, rfl⟩, rfl⟩ := hh
  refine ⟨hcall, fun w hs => ((h (hp w) vs (hA E w vs hs.le (hs.holds _ (List.mem_cons_self ..)) hvs)).2 w (Sees.enterB w)).mono ?_⟩
  rintro x w' ⟨v, H', O, hx, hse, hv⟩
  have h2 := hs.leaveB hse
  have h3 := h2.sub (List.sublist_append_right O _)
  have h4 := (flatV_spec _ r u hu).2 v hv
  subst h4
  exact ⟨v, E.H, _, hx, h3, E, r, [.bag 0 Q], rfl, Env.le.refl E, (flatV_spec E r v hu).1, hh0, by rw [hnx]; rfl, rfl, rfl⟩
theorem ownB_nilbag : ownB [.bag []] = ownB [] := by
  funext b
  refine propext ⟨fun ⟨p, hp, hb⟩ => ?_, fun ⟨p, hp, hb⟩ => by cases hp⟩
  rw [List.mem_singleton] at hp
  subst hp
  obtain ⟨x, hx, _⟩ := hb
  cases hx
theorem enterBag (w : World) : Sees ⟨w, hp w, ownB [.bag []]⟩ (hp w) [.bag []] w := by
  have hno : ∀ p ∈ ([.bag []] : List Piece), ∀ b, ¬ p.hasB b := fun p hm b hb => by
    rw [List.mem_singleton] at hm
    subst hm
    obtain ⟨x, hx, _⟩ := hb
    cases hx
  refine ⟨rfl, rfl, rfl, Nat.le_refl _, fun _ _ _ => rfl, Hp.le.refl _, Hp.le.refl _, fun _ hb => .inl hb, fun p hm => ?_, fun p hm b hb => absurd hb (hno p hm b), List.pairwise_singleton _ _, fun p hm b hb => absurd hb (hno p hm b)⟩
  rw [List.mem_singleton] at hm
  subst hm
  exact ⟨fun r hr => (by cases hr), List.Pairwise.nil⟩
/-- lent to a function whose answer goes into an arena of its own: that answer is frozen then, and what was lent is there as it was -/
theorem AFn.lendC {P : Program} {f : FuncId} {A A' : List AV} {Q : List RowD} {R : AV → List AP → Prop} {r0 : AV} (hcall : ∀ (args : Array Value) w, (callFunc f args).run P w = .ok (.enter f args) w) (h : AFn P f A [.bag 0 []] R)
    (hA : ∀ (E : Env) (w : World) vs, Hp.le E.H (hp w) → (Piece.bag Q).holds w → VL E A' vs → VFL (hp w) A vs)
    (hR : ∀ r h', R r h' → ∃ Q', h' = [.bag 0 Q'] ∧ ∀ (E : Env) v w, (Piece.bag Q').holds w → (∀ b, (Piece.bag Q').hasB b → E.H b = w.heap[b]?) → V ⟨hp w, E.m, E.g, 1⟩ r v → VF E.H r0 v) : AFn P f A' [.bag 0 Q] (fun r' h' => r' = r0 ∧ h' = [.bag 0 Q]) := by
  intro E vs L hnx hvs hh
  have hh0 := hh
  simp only [VH, VP] at hh
  obtain ⟨_, _, rfl, ⟨h0, rfl⟩, rfl⟩ := hh
  refine ⟨hcall, fun w hs => ?_⟩
  have hvs' := hA E w vs hs.le (hs.holds _ (List.mem_cons_self ..)) hvs
  have hvs2 : VL ⟨hp w, fun _ => 0, fun _ => .nilFunc, 1⟩ A vs := VL.mono hvs' ⟨Hp.le.refl _, Nat.zero_le _, fun i hi => absurd hi (Nat.not_lt_zero i), fun i hi => absurd hi (Nat.not_lt_zero i)⟩
  refine ((h ⟨hp w, fun _ => 0, fun _ => .nilFunc, 1⟩ vs [.bag []] rfl hvs2 (by simp only [VH, VP]; exact ⟨_, _, rfl, ⟨Nat.zero_lt_one, rfl⟩, rfl⟩)).2 w (enterBag w)).mono ?_
  rintro x w' ⟨v, H', O, hx, hse, E', r, h', rfl, hE, hv, hh', hn, hr0⟩
  obtain ⟨Q', rfl, hV⟩ := hR r h' hr0
  simp only [VH, VP] at hh'
  obtain ⟨_, _, rfl, ⟨_, rfl⟩, rfl⟩ := hh'
  rw [ownB_nilbag] at hse
  have h2 := hs.leaveB hse
  obtain ⟨H2, h3, h4, h5⟩ := h2.freeze (p := .bag Q') (L1 := [.bag Q]) (List.Perm.refl _)
  have hQ := hse.holds _ (List.mem_cons_self ..)
  have hn1 : E'.nx = 1 := by rw [hn]; rfl
  have hv2 : V ⟨hp w', E'.m, E'.g, 1⟩ r v := hv.mono ⟨hse.le, by rw [hn1]; exact Nat.le_refl _, fun _ _ => rfl, fun _ _ => rfl⟩
  have hf := hV { E' with H := H2 } v w' hQ h5 hv2
  refine ⟨v, H2, _, hx, h4, { E with H := H2 }, r0, [.bag 0 Q], rfl, ⟨h3, Nat.le_refl _, fun _ _ => rfl, fun _ _ => rfl⟩, hf.mono (Env.le.of (Hp.le.refl _)), ?_, by show E.nx = _; rw [hnx]; rfl, rfl, rfl⟩
  simp only [VH, VP]
  exact ⟨_, _, rfl, ⟨h0, rfl⟩, rfl⟩
end Go.Proofs.Ytailblpjmgabjaa
