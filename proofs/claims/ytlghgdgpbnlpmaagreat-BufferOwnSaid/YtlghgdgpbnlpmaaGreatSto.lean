/- What is proved: a store into an own row. Conditions: none. -/
import Derived.Test.YtlghgdgpbnlpmaaGreatRow
import Derived.Laws.OwnMore
namespace Go.Proofs.YtlghgdgpbnlpmaaGreat
open Go.RowKit

section more
variable {P : Program} {e : Ent} {n : Nat} {F : Slots} {H : Hp} {L : List Piece}
theorem flatten_set {k : Nat} : ∀ {rows : List (List Value)}, (∀ r ∈ rows, r.length = k) → ∀ {j : Nat} {r : List Value}, rows[j]? = some r → ∀ {i : Nat}, i < k → ∀ (u : Value), rows.flatten.set (j * k + i) u = (rows.set j (r.set i u)).flatten
  | [], _, j, r, hj, _, _, _ => by simp at hj
  | r0 :: rows, hk, 0, r, hj, i, hi, u => by
    simp only [List.getElem?_cons_zero, Option.some.injEq] at hj
    subst hj
    have h0 := hk r0 (List.mem_cons_self ..)
    simp only [Nat.zero_mul, Nat.zero_add, List.flatten_cons, List.set_cons_zero]
    rw [List.set_append_left _ _ (by omega)]
  | r0 :: rows, hk, j + 1, r, hj, i, hi, u => by
    simp only [List.getElem?_cons_succ] at hj
    have h0 := hk r0 (List.mem_cons_self ..)
    have ih := flatten_set (fun r hr => hk r (List.mem_cons_of_mem _ hr)) hj hi u
    simp only [List.flatten_cons, List.set_cons_succ]
    rw [List.set_append_right _ _ (by rw [h0, Nat.add_mul]; omega), ← ih, h0]
    congr 2
    rw [Nat.add_mul]
    omega
theorem opt_sto {T E : TypeId} [hT : One P T] {x y : Operand} {v : Value} {g N c off j sk : Nat} {rows : List (List Value)} {r : List Value} (i : Nat) (hx : ev F x = .pointer (some (((⟨g, 0, none⟩ : Addr).add (j * sk)).add off)))
    (hL : L[i]? = some (.row (.slice (some ⟨g, 0, none⟩) N c) E sk rows)) (hj : rows[j]? = some r) (hy : ev F y = v) (h1 : v.oneCell' = true) (hoff : Nat.ble (off + 1) sk = true) :
    Opt P e (.store T x y) F H L (fun _ H' L' => H' = H ∧ L' = L.set i (.row (.slice (some ⟨g, 0, none⟩) N c) E sk (rows.set j (r.set off v)))) :=
  ⟨fun a o w K Q ho hop hs hK => by
    obtain ⟨hp1, hp2⟩ := hs.holds _ (List.mem_of_getElem? hL)
    have hoff' := Nat.le_of_ble_eq_true hoff
    have hN : rows.length = N := by
      rcases hp1.2 with ⟨h, _⟩ | ⟨g', cap, cur, h, _⟩
      · cases h
      · cases h; rfl
    subst hN
    have hjl : j < rows.length := (List.getElem?_eq_some_iff.1 hj).1
    have hlt : j * sk + off < rows.length * sk := by
      have : (j + 1) * sk ≤ rows.length * sk := Nat.mul_le_mul_right _ hjl
      rw [Nat.add_mul] at this
      omega
    have hadd : ((⟨g, 0, none⟩ : Addr).add (j * sk)).add off = ⟨g, j * sk + off, none⟩ := by rw [add_add]; unfold Addr.add; split <;> simp_all
    obtain ⟨hst, hgr⟩ := hp1.stored (j * sk + off) v
    have hfl := flatten_set hp2 hj (show off < sk by omega) v
    rw [hfl] at hst
    have hrow : ∀ q ∈ rows.set j (r.set off v), q.length = sk := by
      intro q hq
      rcases List.mem_or_eq_of_mem_set hq with hq | rfl
      · exact hp2 q hq
      · rw [List.length_set]; exact hp2 r (List.mem_of_getElem? hj)
    have hcell : w.cell? ⟨g, j * sk + off, none⟩ = rows.flatten[j * sk + off]? := hp1.cellAt _ hlt
    have hrun : (execOp a.eval o).run P w = .ok .skip (w.setCell ⟨g, j * sk + off, none⟩ v) := by
      unfold execOp; rw [ho]; simp only; rw [hop x (by simp [Op.operands]), hop y (by simp [Op.operands]), hx, hy, hadd]
      have hfz : w.frozen? ⟨g, j * sk + off, none⟩ = false := hp1.frozenAt _
      have hcs : w.cell? ⟨g, j * sk + off, none⟩ ≠ none := by
        rw [hcell]
        have : j * sk + off < rows.flatten.length := by rw [flatten_len rows hp2]; exact hlt
        rw [List.getElem?_eq_getElem this]
        simp
      have hr := run_store P w ⟨g, j * sk + off, none⟩ v .plain h1
      have hr2 : (store ⟨g, j * sk + off, none⟩ v).run P w = .ok () (w.setCell ⟨g, j * sk + off, none⟩ v) := by
        rw [hr]
        cases hc2 : w.cell? ⟨g, j * sk + off, none⟩ with
        | none => exact absurd hc2 hcs
        | some u => simp [hfz]
      have hv : v.cells = #[v] := by cases v <;> first | rfl | (simp [Value.oneCell'] at h1)
      have h0 : (⟨g, j * sk + off, none⟩ : Addr).add 0 = ⟨g, j * sk + off, none⟩ := by simp [Addr.add]
      simp only [Instr.storeAt, Instr.sureAddr, storeVar, Sem.run_bind, Sem.run_pure, Result.andThen_ok, hT.hk, hv, List.size_toArray, List.length_cons, List.length_nil, ne_eq, not_true_eq_false, if_false, storeCells, h0, hr2]
    unfold Oper.wp
    rw [hrun]
    have hs' := hs.change (q := .row (.slice (some ⟨g, 0, none⟩) rows.length c) E sk (rows.set j (r.set off v))) hL hgr.os hgr.tape hgr.output hgr.size (fun b hb hne => hgr.block b hb (fun ec => hne (by simp [Piece.hasB, Value.ownBlock, ec])))
      ⟨by simpa using hst, hrow⟩ (fun b hb => .inl hb)
    exact hK _ _ _ _ hs' ⟨rfl, rfl⟩⟩
end more
end Go.Proofs.YtlghgdgpbnlpmaaGreat
