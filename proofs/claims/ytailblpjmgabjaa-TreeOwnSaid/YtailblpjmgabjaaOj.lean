/- What is proved: an answer's last cell, an own row, goes into the arena. Conditions: none. -/
import Derived.Test.YtailblpjmgabjaaAr
namespace Go.Proofs.Ytailblpjmgabjaa
open Go.RowKit
set_option linter.unusedVariables false
theorem VL_appI {E : Env} : ∀ {al bs : List AV} {us : List Value}, VL E (al ++ bs) us → ∃ u1 u2, us = u1 ++ u2 ∧ VL E al u1 ∧ VL E bs u2
  | [], bs, us, h => ⟨[], us, rfl, by simp [VL], h⟩
  | a :: al, bs, us, h => by
    simp only [List.cons_append, VL] at h
    obtain ⟨u, us', rfl, h1, h2⟩ := h
    obtain ⟨u1, u2, rfl, h3, h4⟩ := VL_appI h2
    exact ⟨u :: u1, u2, rfl, by simp only [VL]; exact ⟨u, u1, rfl, h1, h3⟩, h4⟩
/-- an answer's last cell, an own row, goes into the arena -/
theorem AFn.into1 {P : Program} {f : FuncId} {args : List AV} {Ps : List RowD} {R R' : AV → List AP → Prop} (ha : AFn P f args [.bag 0 Ps] R)
    (hR : ∀ r h', R r h' → ∃ cs us Q T1 k1 rows1, flatL cs = some us ∧ r = .agg (cs ++ [.own 1 rows1.length]) ∧ h' = [.bag 0 Q, .row 1 T1 k1 rows1] ∧
      ∀ E a1 c1 rs1, VLL (Env.fz E) rows1 rs1 → R' (.agg (cs ++ [.sval a1 rows1.length c1])) [.bag 0 (⟨.slice a1 rows1.length c1, T1, k1, rs1⟩ :: Q)]) : AFn P f args [.bag 0 Ps] R' := by
  intro E vs L hnx hvs hh
  obtain ⟨h1, h2⟩ := ha E vs L hnx hvs hh
  refine ⟨h1, fun w hs => (h2 w hs).mono ?_⟩
  rintro x w' ⟨v, H', O, hx, hse, E', r, h', rfl, hE, hv, hh', hn, hr0⟩
  obtain ⟨cs, us, Q, T1, k1, rows1, hfl, rfl, rfl, hR2⟩ := hR r h' hr0
  simp only [VH, VP] at hh'
  obtain ⟨_, _, rfl, ⟨_, rfl⟩, _, _, rfl, ⟨_, ⟨a1, c1, hg1⟩, rs1, rfl, hr1⟩, rfl⟩ := hh'
  rw [hg1] at hse
  have hs1 := (hse.perm (L' := [.row (.slice a1 rows1.length c1) T1 k1 rs1, .bag Q]) (List.Perm.swap _ _ _)).bagIn (r := ⟨.slice a1 rows1.length c1, T1, k1, rs1⟩)
  simp only [V] at hv
  obtain ⟨us', rfl, hvl⟩ := hv
  obtain ⟨u1, u2, rfl, hv1, hv2⟩ := VL_appI hvl
  simp only [VL, V] at hv2
  obtain ⟨u, u', rfl, ⟨_, hu1, _⟩, rfl⟩ := hv2
  rw [hg1] at hu1
  subst hu1
  obtain ⟨hf1, hf2⟩ := flatL_spec E' cs us hfl
  obtain rfl := hf2 u1 hv1
  refine ⟨_, E'.H, _, hx, hs1, ⟨E'.H, E'.m, E'.g, 1⟩, _, _, rfl, ⟨hE.H, by rw [hnx]; exact Nat.le_refl _, fun i hi => hE.m i hi, fun i hi => hE.g i hi⟩, ?_, ?_, ?_, hR2 E'.H a1 c1 rs1 hr1⟩
  · simp only [V]
    refine ⟨_, rfl, VL_append (flatL_spec _ cs u1 hfl).1 ?_⟩
    simp only [VL, V]
    exact ⟨_, _, rfl, rfl, rfl⟩
  · simp only [VH, VP]
    exact ⟨_, _, rfl, ⟨by decide, rfl⟩, rfl⟩
  · rfl
end Go.Proofs.Ytailblpjmgabjaa
