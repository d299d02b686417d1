/- What is proved: an arena: many own rows at once, into which own rows go, and out of which they come. Conditions: none. -/
import Derived.Test.YtailblpjmgabjaaWk
namespace Go.Proofs.Ytailblpjmgabjaa
open Go.RowKit
set_option linter.unusedVariables false
/-- a row comes out of the bag -/
theorem Sees.bagOut {e : Ent} {H : Hp} {L : List Piece} {w : World} {r : RowD} {rs : List RowD} (h : Sees e H (.bag (r :: rs) :: L) w) : Sees e H (.row r.v r.E r.k r.rows :: .bag rs :: L) w := by
  have hp := List.pairwise_cons.1 h.pw
  have h2 := h.holds _ (List.mem_cons_self ..)
  have h3 := List.pairwise_cons.1 h2.2
  refine ⟨h.os, h.tape, h.output, h.size, h.keep, h.le0, h.le, h.new, ?_, ?_, ?_, ?_⟩
  · intro p hm
    rcases List.mem_cons.1 hm with rfl | hm
    · exact h2.1 r (List.mem_cons_self ..)
    · rcases List.mem_cons.1 hm with rfl | hm
      · exact ⟨fun x hx => h2.1 x (List.mem_cons_of_mem _ hx), h3.2⟩
      · exact h.holds p (List.mem_cons_of_mem _ hm)
  · intro p hm b hb
    rcases List.mem_cons.1 hm with rfl | hm
    · exact h.apart _ (List.mem_cons_self ..) b ⟨r, List.mem_cons_self .., hb⟩
    · rcases List.mem_cons.1 hm with rfl | hm
      · obtain ⟨x, hx, hxb⟩ := hb
        exact h.apart _ (List.mem_cons_self ..) b ⟨x, List.mem_cons_of_mem _ hx, hxb⟩
      · exact h.apart p (List.mem_cons_of_mem _ hm) b hb
  · refine List.pairwise_cons.2 ⟨fun q hq b hb hqb => ?_, List.pairwise_cons.2 ⟨fun q hq b hb hqb => ?_, hp.2⟩⟩
    · rcases List.mem_cons.1 hq with rfl | hq
      · obtain ⟨x, hx, hxb⟩ := hqb
        exact h3.1 x hx b hb hxb
      · exact hp.1 q hq b ⟨r, List.mem_cons_self .., hb⟩ hqb
    · obtain ⟨x, hx, hxb⟩ := hb
      exact hp.1 q hq b ⟨x, List.mem_cons_of_mem _ hx, hxb⟩ hqb
  · intro p hm b hb
    rcases List.mem_cons.1 hm with rfl | hm
    · exact h.from_ _ (List.mem_cons_self ..) b ⟨r, List.mem_cons_self .., hb⟩
    · rcases List.mem_cons.1 hm with rfl | hm
      · obtain ⟨x, hx, hxb⟩ := hb
        exact h.from_ _ (List.mem_cons_self ..) b ⟨x, List.mem_cons_of_mem _ hx, hxb⟩
      · exact h.from_ p (List.mem_cons_of_mem _ hm) b hb
/-- the bag in another order -/
theorem apartR.symm {r s : RowD} (h : apartR r s) : apartR s r := fun b hs hr => h b hr hs
theorem Sees.bagPerm {e : Ent} {H : Hp} {L : List Piece} {w : World} {rs rs' : List RowD} (hp : rs.Perm rs') (h : Sees e H (.bag rs :: L) w) : Sees e H (.bag rs' :: L) w := by
  have hpw := List.pairwise_cons.1 h.pw
  have h2 := h.holds _ (List.mem_cons_self ..)
  have hb' : ∀ b, (Piece.bag rs').hasB b → (Piece.bag rs).hasB b := fun b ⟨x, hx, hxb⟩ => ⟨x, hp.mem_iff.2 hx, hxb⟩
  refine ⟨h.os, h.tape, h.output, h.size, h.keep, h.le0, h.le, h.new, ?_, ?_, ?_, ?_⟩
  · intro p hm
    rcases List.mem_cons.1 hm with rfl | hm
    · exact ⟨fun x hx => h2.1 x (hp.mem_iff.2 hx), (hp.pairwise_iff apartR.symm).1 h2.2⟩
    · exact h.holds p (List.mem_cons_of_mem _ hm)
  · intro p hm b hb
    rcases List.mem_cons.1 hm with rfl | hm
    · exact h.apart _ (List.mem_cons_self ..) b (hb' b hb)
    · exact h.apart p (List.mem_cons_of_mem _ hm) b hb
  · exact List.pairwise_cons.2 ⟨fun q hq b hb => hpw.1 q hq b (hb' b hb), hpw.2⟩
  · intro p hm b hb
    rcases List.mem_cons.1 hm with rfl | hm
    · exact h.from_ _ (List.mem_cons_self ..) b (hb' b hb)
    · exact h.from_ p (List.mem_cons_of_mem _ hm) b hb
/-- fewer rows -/
theorem Sees.bagSub {e : Ent} {H : Hp} {L : List Piece} {w : World} {rs rs' : List RowD} (hs : rs'.Sublist rs) (h : Sees e H (.bag rs :: L) w) : Sees e H (.bag rs' :: L) w := by
  have hpw := List.pairwise_cons.1 h.pw
  have h2 := h.holds _ (List.mem_cons_self ..)
  have hb' : ∀ b, (Piece.bag rs').hasB b → (Piece.bag rs).hasB b := fun b ⟨x, hx, hxb⟩ => ⟨x, hs.subset hx, hxb⟩
  refine ⟨h.os, h.tape, h.output, h.size, h.keep, h.le0, h.le, h.new, ?_, ?_, ?_, ?_⟩
  · intro p hm
    rcases List.mem_cons.1 hm with rfl | hm
    · exact ⟨fun x hx => h2.1 x (hs.subset hx), h2.2.sublist hs⟩
    · exact h.holds p (List.mem_cons_of_mem _ hm)
  · intro p hm b hb
    rcases List.mem_cons.1 hm with rfl | hm
    · exact h.apart _ (List.mem_cons_self ..) b (hb' b hb)
    · exact h.apart p (List.mem_cons_of_mem _ hm) b hb
  · exact List.pairwise_cons.2 ⟨fun q hq b hb => hpw.1 q hq b (hb' b hb), hpw.2⟩
  · intro p hm b hb
    rcases List.mem_cons.1 hm with rfl | hm
    · exact h.from_ _ (List.mem_cons_self ..) b (hb' b hb)
    · exact h.from_ p (List.mem_cons_of_mem _ hm) b hb
/-- a slice, as it is -/
def svA : Value → AV
  | .slice a n c => .sval a n c
  | _ => .junk
theorem svA_V {E : Env} {a : Option Addr} {n c : Nat} : V E (svA (.slice a n c)) (.slice a n c) := by simp only [svA, V]
/-- rows that say the same in every memory -/
def RowsV (rows : List (List AV)) (rs : List (List Value)) : Prop := ∀ E : Env, VLL E rows rs
/-- an answer's two own rows go into the arena -/
theorem AFn.into {P : Program} {f : FuncId} {args : List AV} {Ps : List RowD} {R R' : AV → List AP → Prop} (ha : AFn P f args [.bag 0 Ps] R)
    (hR : ∀ r h', R r h' → ∃ Q T1 k1 rows1 T2 k2 rows2, r = .agg [.own 1 rows1.length, .own 2 rows2.length] ∧ h' = [.bag 0 Q, .row 1 T1 k1 rows1, .row 2 T2 k2 rows2] ∧
      ∀ E a1 c1 a2 c2 rs1 rs2, VLL (Env.fz E) rows1 rs1 → VLL (Env.fz E) rows2 rs2 → R' (.agg [.sval a1 rows1.length c1, .sval a2 rows2.length c2]) [.bag 0 (⟨.slice a1 rows1.length c1, T1, k1, rs1⟩ :: ⟨.slice a2 rows2.length c2, T2, k2, rs2⟩ :: Q)]) : AFn P f args [.bag 0 Ps] R' := by
  intro E vs L hnx hvs hh
  obtain ⟨h1, h2⟩ := ha E vs L hnx hvs hh
  refine ⟨h1, fun w hs => (h2 w hs).mono ?_⟩
  rintro x w' ⟨v, H', O, hx, hse, E', r, h', rfl, hE, hv, hh', hn, hr0⟩
  obtain ⟨Q, T1, k1, rows1, T2, k2, rows2, rfl, rfl, hR2⟩ := hR r h' hr0
  simp only [VH, VP] at hh'
  obtain ⟨_, _, rfl, ⟨_, rfl⟩, _, _, rfl, ⟨_, ⟨a1, c1, hg1⟩, rs1, rfl, hr1⟩, _, _, rfl, ⟨_, ⟨a2, c2, hg2⟩, rs2, rfl, hr2⟩, rfl⟩ := hh'
  rw [hg1, hg2] at hse
  have hs1 := (hse.perm (L' := [.row (.slice a2 rows2.length c2) T2 k2 rs2, .bag Q, .row (.slice a1 rows1.length c1) T1 k1 rs1]) (by
    refine (List.Perm.cons _ (List.Perm.swap _ _ _)).trans ?_
    exact List.Perm.swap _ _ _)).bagIn (r := ⟨.slice a2 rows2.length c2, T2, k2, rs2⟩)
  have hs2 := (hs1.perm (L' := [.row (.slice a1 rows1.length c1) T1 k1 rs1, .bag (⟨.slice a2 rows2.length c2, T2, k2, rs2⟩ :: Q)]) (List.Perm.swap _ _ _)).bagIn (r := ⟨.slice a1 rows1.length c1, T1, k1, rs1⟩)
  simp only [V, VL] at hv
  obtain ⟨us, rfl, u1, us', rfl, ⟨_, hu1, _⟩, u2, us'', rfl, ⟨_, hu2, _⟩, rfl⟩ := hv
  rw [hg1] at hu1
  rw [hg2] at hu2
  subst hu1
  subst hu2
  refine ⟨_, E'.H, _, hx, hs2, ⟨E'.H, E'.m, E'.g, 1⟩, _, _, rfl, ⟨hE.H, by rw [hnx]; exact Nat.le_refl _, fun i hi => hE.m i hi, fun i hi => hE.g i hi⟩, ?_, ?_, ?_, hR2 E'.H a1 c1 a2 c2 rs1 rs2 hr1 hr2⟩
  · simp only [V, VL]
    exact ⟨_, rfl, _, _, rfl, rfl, _, _, rfl, rfl, rfl⟩
  · simp only [VH, VP]
    exact ⟨_, _, rfl, ⟨Nat.lt_irrefl 0 |> fun _ => by decide, rfl⟩, rfl⟩
  · rfl
end Go.Proofs.Ytailblpjmgabjaa
