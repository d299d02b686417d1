/- What is proved: a tree's top rows come out of the arena for a function that writes them. Conditions: none. -/
import Derived.Test.YtailblpjmgabjaaOc
namespace Go.Proofs.Ytailblpjmgabjaa
open Go.RowKit
set_option linter.unusedVariables false
theorem ownB_open {rs Q : List RowD} {D1 D2 : RowD} (hp : rs.Perm (D1 :: D2 :: Q)) : ownB [.bag rs] = ownB [.bag Q, .row D1.v D1.E D1.k D1.rows, .row D2.v D2.E D2.k D2.rows] := by
  funext b
  refine propext ⟨fun ⟨p, hm, hb⟩ => ?_, fun ⟨p, hm, hb⟩ => ⟨_, List.mem_singleton.2 rfl, ?_⟩⟩
  · rw [List.mem_singleton] at hm
    subst hm
    obtain ⟨x, hx, hxb⟩ := hb
    rcases List.mem_cons.1 (hp.mem_iff.1 hx) with rfl | hx
    · exact ⟨.row x.v x.E x.k x.rows, by simp, hxb⟩
    · rcases List.mem_cons.1 hx with rfl | hx
      · exact ⟨.row x.v x.E x.k x.rows, by simp, hxb⟩
      · exact ⟨.bag Q, by simp, x, hx, hxb⟩
  · simp only [List.mem_cons, List.not_mem_nil, or_false] at hm
    rcases hm with rfl | rfl | rfl
    · obtain ⟨x, hx, hxb⟩ := hb
      exact ⟨x, hp.mem_iff.2 (by simp [hx]), hxb⟩
    · exact ⟨D1, hp.mem_iff.2 (by simp), hb⟩
    · exact ⟨D2, hp.mem_iff.2 (by simp), hb⟩
theorem Sees.open {e : Ent} {H : Hp} {w : World} {rs Q : List RowD} {D1 D2 : RowD} (hp : rs.Perm (D1 :: D2 :: Q)) (h : Sees e H [.bag rs] w) : Sees e H [.bag Q, .row D1.v D1.E D1.k D1.rows, .row D2.v D2.E D2.k D2.rows] w := by
  have h1 := (h.bagPerm hp).bagOut
  have h2 := (h1.perm (L' := [.bag (D2 :: Q), .row D1.v D1.E D1.k D1.rows]) (List.Perm.swap _ _ _)).bagOut
  refine h2.perm ?_
  refine (List.Perm.swap _ _ _).trans ?_
  exact List.Perm.cons _ (List.Perm.swap _ _ _)
/-- the arguments are a tree in the arena: its top rows are handed over as own slices -/
theorem AFn.open {P : Program} {f : FuncId} {a b : Sl3} {D1 D2 : RowD} {Q Q0 : List RowD} {rows1 rows2 : List (List AV)} {R : List RowD → Prop} (hcall : ∀ (args : Array Value) w, (callFunc f args).run P w = .ok (.enter f args) w) (hv1 : D1.v = sl3 a) (hv2 : D2.v = sl3 b) (hp : Q0.Perm (D1 :: D2 :: Q)) (h1 : RowsV rows1 D1.rows) (h2 : RowsV rows2 D2.rows)
    (ha : AFn P f [.agg [.own 1 rows1.length, .own 2 rows2.length]] [.bag 0 Q, .row 1 D1.E D1.k rows1, .row 2 D2.E D2.k rows2] (fun r h' => r = .tup [] ∧ ∃ Q1 t, h' = .bag 0 Q1 :: t ∧ R Q1)) :
    AFn P f [.agg [sv3 a, sv3 b]] [.bag 0 Q0] (fun r h' => r = .tup [] ∧ ∃ Q1, h' = [.bag 0 Q1] ∧ R Q1) := by
  intro E vs L hnx hvs hh
  simp only [VH, VP] at hh
  obtain ⟨_, _, rfl, ⟨h0, rfl⟩, rfl⟩ := hh
  simp only [VL, V] at hvs
  obtain ⟨_, _, rfl, ⟨us, rfl, u1, us1, rfl, rfl, u2, us2, rfl, rfl, rfl⟩, rfl⟩ := hvs
  refine ⟨hcall, fun w hs => ?_⟩
  have hs2 := hs.open hp
  have d1 := hs2.holds (.row D1.v D1.E D1.k D1.rows) (by simp)
  have d2 := hs2.holds (.row D2.v D2.E D2.k D2.rows) (by simp)
  have l1 : D1.rows.length = rows1.length := VLL_len (h1 (Env.fz E.H))
  have l2 : D2.rows.length = rows2.length := VLL_len (h2 (Env.fz E.H))
  obtain ⟨a1, c1, e1, f1, _, g1⟩ := own_form d1.1
  obtain ⟨a2, c2, e2, f2, _, g2⟩ := own_form d2.1
  rw [l1] at e1 f1 g1
  rw [l2] at e2 f2 g2
  have hin := ha ⟨E.H, E.m, fun i => if i = 1 then D1.v else if i = 2 then D2.v else E.g i, 3⟩ [.agg #[sl3 a, sl3 b]] [.bag Q, .row D1.v D1.E D1.k D1.rows, .row D2.v D2.E D2.k D2.rows] rfl (by
    simp only [VL, V]
    exact ⟨_, _, rfl, ⟨_, rfl, _, _, rfl, ⟨by decide, hv1.symm, a1, c1, hv1.symm.trans e1, g1, f1⟩, _, _, rfl, ⟨by decide, hv2.symm, a2, c2, hv2.symm.trans e2, g2, f2⟩, rfl⟩, rfl⟩) (by
    simp only [VH, VP]
    exact ⟨_, _, rfl, ⟨by decide, rfl⟩, _, _, rfl, ⟨by decide, ⟨a1, c1, e1⟩, _, rfl, h1 _⟩, _, _, rfl, ⟨by decide, ⟨a2, c2, e2⟩, _, rfl, h2 _⟩, rfl⟩)
  have ho := ownB_open hp
  rw [ho] at hs2
  refine (hin.2 w hs2).mono ?_
  rintro x w' ⟨v, H', O, hx, hse, E', r, h', rfl, hE, hv, hh', hn, rfl, Q1, t, rfl, hR⟩
  simp only [VH, VP] at hh'
  obtain ⟨_, L', rfl, ⟨_, rfl⟩, ht⟩ := hh'
  rw [← ho] at hse
  refine ⟨v, E'.H, [.bag Q1], hx, hse.sub (by simp), ⟨E'.H, E.m, E.g, 1⟩, .tup [], [.bag 0 Q1], rfl, ⟨hE.H, by rw [hnx]; exact Nat.le_refl _, fun _ _ => rfl, fun _ _ => rfl⟩, ?_, ?_, rfl, rfl, Q1, rfl, hR⟩
  · simp only [V, VL] at hv ⊢
    exact hv
  · simp only [VH, VP]
    exact ⟨_, _, rfl, ⟨Nat.zero_lt_one, rfl⟩, rfl⟩
end Go.Proofs.Ytailblpjmgabjaa
