/- What is proved: the rules of a small separation calculus over the kit's walk: memory. Conditions: none. -/
import Derived.Test.YtlghgdgpbnlpmaaGreatOps
namespace Go.Proofs.YtlghgdgpbnlpmaaGreat
open Go.RowKit

def cellH (H : Hp) (a : Addr) : Option Value :=
  match H a.block with
  | some (.cells c _ _) => if a.spot.isSome then none else c[a.off]?
  | _ => none
theorem cellH_hp (w : World) (a : Addr) : cellH (hp w) a = w.cell? a := rfl
theorem cellH_mono {H H' : Hp} (h : Hp.le H H') {a : Addr} {v : Value} (hc : cellH H a = some v) : cellH H' a = some v := by
  unfold cellH at hc ⊢
  cases ho : H a.block with
  | none => rw [ho] at hc; cases hc
  | some o => rw [h _ _ ho]; rw [ho] at hc; exact hc
theorem add_add (a : Addr) (i j : Nat) : (a.add i).add j = a.add (i + j) := by
  unfold Addr.add
  by_cases hi : i = 0 <;> by_cases hj : j = 0 <;> simp [hi, hj, Nat.add_assoc]
theorem add_block (a : Addr) (n : Nat) : (a.add n).block = a.block := by unfold Addr.add; split <;> rfl

/-- the cells cs lie from A on, in the frozen part -/
def At (H : Hp) (A : Addr) (cs : List Value) : Prop := ∀ j u, cs[j]? = some u → cellH H (A.add j) = some u
theorem At.mono {H H' : Hp} {A : Addr} {cs : List Value} (h : At H A cs) (hh : Hp.le H H') : At H' A cs := fun j u hu => cellH_mono hh (h j u hu)

inductive Src (H : Hp) (L : List Piece) (A : Addr) (cs : List Value) : Prop where
  | frz (h : At H A cs)
  | blk (i b : Nat) (T : TypeId) (hL : L[i]? = some (.blk b cs T)) (hA : A = ⟨b, 0, none⟩)
  | row (i g n c : Nat) (E : TypeId) (k : Nat) (rows : List (List Value)) (j : Nat) (hL : L[i]? = some (.row (.slice (some ⟨g, 0, none⟩) n c) E k rows)) (hj : rows[j]? = some cs) (hA : A = (⟨g, 0, none⟩ : Addr).add (j * k))

theorem Src.hd {H : Hp} {L : List Piece} {b : Nat} {cs : List Value} {T : TypeId} : Src H (.blk b cs T :: L) ⟨b, 0, none⟩ cs := .blk 0 b T rfl rfl
theorem Src.hdr {H : Hp} {L : List Piece} {g n c : Nat} {E : TypeId} {k j : Nat} {rows : List (List Value)} {cs : List Value} (hj : rows[j]? = some cs) : Src H (.row (.slice (some ⟨g, 0, none⟩) n c) E k rows :: L) ((⟨g, 0, none⟩ : Addr).add (j * k)) cs := .row 0 g n c E k rows j rfl hj rfl
theorem Src.tl {H : Hp} {L : List Piece} {p : Piece} {A : Addr} {cs : List Value} (h : Src H L A cs) : Src H (p :: L) A cs := by
  cases h with
  | frz h => exact .frz h
  | blk i b T hL hA => exact .blk (i + 1) b T (by simpa using hL) hA
  | row i g n c E k rows j hL hj hA => exact .row (i + 1) g n c E k rows j (by simpa using hL) hj hA
theorem flatten_at {k : Nat} : ∀ {rows : List (List Value)}, (∀ r ∈ rows, r.length = k) → ∀ {j : Nat} {r : List Value}, rows[j]? = some r → ∀ {i : Nat} {u : Value}, r[i]? = some u → rows.flatten[j * k + i]? = some u
  | [], _, j, r, hj, _, _, _ => by simp at hj
  | s :: rows, hk, 0, r, hj, i, u, hu => by
    simp only [List.getElem?_cons_zero, Option.some.injEq] at hj
    subst hj
    have : i < s.length := (List.getElem?_eq_some_iff.1 hu).1
    simp only [List.flatten_cons, Nat.zero_mul, Nat.zero_add]
    rw [List.getElem?_append_left this, hu]
  | s :: rows, hk, j + 1, r, hj, i, u, hu => by
    simp only [List.getElem?_cons_succ] at hj
    have h1 := flatten_at (k := k) (rows := rows) (fun r hr => hk r (List.mem_cons_of_mem _ hr)) hj hu
    have hs : s.length = k := hk s (List.mem_cons_self ..)
    simp only [List.flatten_cons]
    have e : (j + 1) * k + i = s.length + (j * k + i) := by rw [hs, Nat.add_mul]; omega
    rw [e, List.getElem?_append_right (by omega)]
    rw [← h1]
    congr 1
    omega

theorem cell_blk {w : World} {b : Nat} {cs : List Value} {T : TypeId} (h : w.heap[b]? = some (.cells cs.toArray T (0, 0))) (j : Nat) : w.cell? ((⟨b, 0, none⟩ : Addr).add j) = cs[j]? := by
  have e : (⟨b, 0, none⟩ : Addr).add j = ⟨b, j, none⟩ := by
    unfold Addr.add
    by_cases hj : j = 0 <;> simp [hj]
  rw [e]
  simp [World.cell?, h]

theorem Src.get {e : Ent} {H : Hp} {L : List Piece} {w : World} {A : Addr} {cs : List Value} (h : Src H L A cs) (hs : Sees e H L w) : At (hp w) A cs := by
  cases h with
  | frz h => exact h.mono hs.le
  | blk i b T hL hA =>
    subst hA
    intro j u hu
    rw [cellH_hp, cell_blk (hs.holds _ (List.mem_of_getElem? hL)), hu]
  | row i g n c E k rows j hL hj hA =>
    subst hA
    have hp1 := hs.holds _ (List.mem_of_getElem? hL)
    intro x u hu
    rw [cellH_hp, add_add]
    exact hp1.1.cells (g := g) rfl _ _ (flatten_at hp1.2 hj hu)

/-- what a load answers -/
structure Ld (P : Program) (H : Hp) (L : List Piece) (T : TypeId) (A : Addr) (v : Value) : Prop where
  run : ∀ e w, Sees e H L w → (loadVar T A).run P w = .ok v w
theorem ld_one {P : Program} {H : Hp} {L : List Piece} {T : TypeId} {A : Addr} {off : Nat} {cs : List Value} {v : Value} (ha : ∀ w, (isAgg T).run P w = .ok false w) (hs : Src H L A cs) (hu : cs[off]? = some v) :
    Ld P H L T (A.add off) v :=
  ⟨fun e w hse => by
    have hc := hs.get hse off v hu
    rw [cellH_hp] at hc
    unfold loadVar
    simp only [Sem.run_bind, ha, Result.andThen_ok, load, Sem.run, hc, Bool.false_eq_true, if_false]⟩
theorem ld_agg {P : Program} {H : Hp} {L : List Piece} {T : TypeId} {A : Addr} {off k : Nat} {cs us : List Value} (ha : ∀ w, (isAgg T).run P w = .ok true w) (hk : ∀ w, (sizeOf T).run P w = .ok k w) (hs : Src H L A cs)
    (hl : us.length = k) (hu : ∀ j u, us[j]? = some u → cs[off + j]? = some u) : Ld P H L T (A.add off) (.agg us.toArray) :=
  ⟨fun e w hse => by
    have hc : ∀ j v, us[j]? = some v → w.cell? ((A.add off).add j) = some v := fun j v hv => by
      rw [add_add]
      exact hs.get hse _ _ (hu j v hv)
    have hr := run_loadCells_list (P := P) w (A.add off) us hc
    unfold loadVar
    simp only [Sem.run_bind, ha, Result.andThen_ok, if_true, hk]
    rw [← hl, hr]
    rfl⟩

section loads
variable {P : Program} {e : Ent} {F : Slots} {H : Hp} {L : List Piece}
theorem v_load {T : TypeId} {x : Operand} {A : Addr} {v : Value} (hx : ev F x = .pointer (some A)) (h : Ld P H L T A v) : Rv P e (.load T x) F H L v :=
  ⟨fun ρ o w ho hop hs => by
    unfold execOp; rw [ho]; simp only; rw [hop x (by simp [Op.operands]), hx]
    simp only [Instr.loadAt, Instr.sureAddr, Sem.run_bind, Sem.run_pure, Result.andThen_ok, h.run e w hs]⟩
end loads

/-! new memory -/
section news
variable {P : Program} {e : Ent} {n : Nat} {F : Slots} {H : Hp} {L : List Piece} {Q : Post} {ops : Array Oper} {rest : List Oper}
theorem o_box {d : Nat} {T : TypeId} {x : Operand} {ty : TypeId} {pos : String} {af : Array Edge} {v : Value} {cs : List Value} (hd : Nat.ble (d + 1) n = true) (hx : ev F x = v) (hv : v.cells = cs.toArray)
    (k : ∀ b : Nat, Ops P e n ops rest (upd F d (.pointer (some ((⟨b, 0, none⟩ : Addr).add 0)))) H (.blk b cs T :: L) Q) : Ops P e n ops (⟨some d, .box T x, ty, pos, af, none⟩ :: rest) F H L Q :=
  ⟨fun a w hf hs => wpList_plain rfl fun K hK => by
    have hr : (execOp a.eval ⟨some d, .box T x, ty, pos, af, none⟩).run P w = .ok (.value (.pointer (some ⟨w.heap.size, 0, none⟩))) (w.alloc (.cells cs.toArray T)) := by
      unfold execOp; simp only; rw [hf.eval, hx]
      simp only [Instr.box, newVar, newRow, newObj, hv]
      rfl
    unfold Oper.wp
    rw [hr]
    have hs' := hs.alloc cs.toArray T
    exact hK _ _ ((k w.heap.size).run _ _ (hf.put (Nat.le_of_ble_eq_true hd) _) hs')⟩
theorem o_alloc {d : Nat} {T : TypeId} {ty : TypeId} {pos : String} {af : Array Edge} {z : Value} {cs : List Value} (hz : ∀ w, (zeroValue T).run P w = .ok z w) (hd : Nat.ble (d + 1) n = true) (hv : z.cells = cs.toArray)
    (k : ∀ b : Nat, Ops P e n ops rest (upd F d (.pointer (some ((⟨b, 0, none⟩ : Addr).add 0)))) H (.blk b cs T :: L) Q) : Ops P e n ops (⟨some d, .alloc T, ty, pos, af, none⟩ :: rest) F H L Q :=
  ⟨fun a w hf hs => wpList_plain rfl fun K hK => by
    have hr : (execOp a.eval ⟨some d, .alloc T, ty, pos, af, none⟩).run P w = .ok (.value (.pointer (some ⟨w.heap.size, 0, none⟩))) (w.alloc (.cells cs.toArray T)) := by
      unfold execOp; simp only [Instr.alloc, Sem.run_bind, hz, Result.andThen_ok, newVar, newRow, newObj, hv]
      rfl
    unfold Oper.wp
    rw [hr]
    have hs' := hs.alloc cs.toArray T
    exact hK _ _ ((k w.heap.size).run _ _ (hf.put (Nat.le_of_ble_eq_true hd) _) hs')⟩
end news

/-! stores -/
def splice : List Value → Nat → List Value → List Value
  | cs, _, [] => cs
  | cs, off, u :: us => splice (cs.set off u) (off + 1) us
theorem splice_length : ∀ (us cs : List Value) (off : Nat), (splice cs off us).length = cs.length
  | [], _, _ => rfl
  | u :: us, cs, off => by rw [splice, splice_length us]; simp

theorem setCell_blk {w : World} {b : Nat} {cs : List Value} {T : TypeId} (h : w.heap[b]? = some (.cells cs.toArray T (0, 0))) (j : Nat) (u : Value) :
    (w.setCell ((⟨b, 0, none⟩ : Addr).add j) u).heap[b]? = some (.cells (cs.set j u).toArray T (0, 0)) := by
  have e : (⟨b, 0, none⟩ : Addr).add j = ⟨b, j, none⟩ := by
    unfold Addr.add
    by_cases hj : j = 0 <;> simp [hj]
  rw [e]
  simp [World.setCell, Array.getElem?_modify, h]
theorem run_store_blk {P : Program} {w : World} {b : Nat} {cs : List Value} {T : TypeId} (h : w.heap[b]? = some (.cells cs.toArray T (0, 0))) (j : Nat) (hj : j < cs.length) (u : Value) (h1 : u.oneCell' = true) :
    (store ((⟨b, 0, none⟩ : Addr).add j) u).run P w = .ok () (w.setCell ((⟨b, 0, none⟩ : Addr).add j) u) := by
  have e : (⟨b, 0, none⟩ : Addr).add j = ⟨b, j, none⟩ := by
    unfold Addr.add
    by_cases hj : j = 0 <;> simp [hj]
  have hc : w.cell? ((⟨b, 0, none⟩ : Addr).add j) = some cs[j] := by rw [cell_blk h, List.getElem?_eq_getElem hj]
  have hfz : w.frozen? ((⟨b, 0, none⟩ : Addr).add j) = false := by
    rw [e]
    simp [World.frozen?, h]
  have hr := run_store P w ((⟨b, 0, none⟩ : Addr).add j) u .plain h1
  rw [hr]
  simp [hc, hfz]
theorem run_storeCells_blk {P : Program} {b : Nat} {T : TypeId} : ∀ (us : List Value) (w : World) (cs : List Value) (off i : Nat), w.heap[b]? = some (.cells cs.toArray T (0, 0)) → off + i + us.length ≤ cs.length → us.all Value.oneCell' = true →
    ∃ w', (storeCells ((⟨b, 0, none⟩ : Addr).add off) us i).run P w = .ok () w' ∧ w'.heap[b]? = some (.cells (splice cs (off + i) us).toArray T (0, 0)) ∧ w.grownBy w' (some b)
  | [], w, cs, off, i, h, _, _ => ⟨w, rfl, h, ⟨rfl, rfl, rfl, Nat.le_refl _, fun _ _ _ => rfl⟩⟩
  | u :: us, w, cs, off, i, h, hl, h1 => by
    simp only [List.all_cons, Bool.and_eq_true] at h1
    simp only [List.length_cons] at hl
    have hst := run_store_blk (P := P) h (off + i) (by omega) u h1.1
    have hb := setCell_blk h (off + i) u
    obtain ⟨w', hr, hh, hg⟩ := run_storeCells_blk (P := P) us (w.setCell ((⟨b, 0, none⟩ : Addr).add (off + i)) u) (cs.set (off + i) u) off (i + 1) hb (by simp; omega) h1.2
    refine ⟨w', ?_, ?_, ⟨hg.os, hg.tape, hg.output, by simpa using hg.size, fun k hk hne => ?_⟩⟩
    · unfold storeCells
      rw [add_add]
      simp only [Sem.run_bind, hst, Result.andThen_ok, hr]
    · simpa [splice, Nat.add_assoc] using hh
    · refine (hg.block k (by simpa using hk) hne).trans ?_
      exact Below.heap_setCell _ _ _ _ (fun e => hne (by rw [e, add_block]))

section stores
variable {P : Program} {e : Ent} {n : Nat} {F : Slots} {H : Hp} {L : List Piece} {Q : Post} {ops : Array Oper} {rest : List Oper}
theorem o_store {T : TypeId} {x y : Operand} {ty : TypeId} {pos : String} {af : Array Edge} {v : Value} {us : List Value} {b off k : Nat} {cs : List Value} {T' : TypeId} (i : Nat)
    (hk : ∀ w, (sizeOf T).run P w = .ok k w) (hx : ev F x = .pointer (some ((⟨b, 0, none⟩ : Addr).add off))) (hL : L[i]? = some (.blk b cs T')) (hy : ev F y = v) (hv : v.cells = us.toArray) (hl : us.length = k)
    (hfit : Nat.ble (off + k) cs.length = true) (h1 : us.all Value.oneCell' = true)
    (h : Ops P e n ops rest F H (L.set i (.blk b (splice cs off us) T')) Q) : Ops P e n ops (⟨none, .store T x y, ty, pos, af, none⟩ :: rest) F H L Q :=
  ⟨fun a w hf hs => wpList_plain rfl fun K hK => by
    have hp1 := hs.holds _ (List.mem_of_getElem? hL)
    obtain ⟨w', hr, hh, hg⟩ := run_storeCells_blk (P := P) us w cs off 0 hp1 (by have := Nat.le_of_ble_eq_true hfit; omega) h1
    have hrun : (execOp a.eval ⟨none, .store T x y, ty, pos, af, none⟩).run P w = .ok .skip w' := by
      unfold execOp; simp only; rw [hf.eval, hx, hy]
      simp only [Instr.storeAt, Instr.sureAddr, storeVar, Sem.run_bind, Sem.run_pure, Result.andThen_ok, hk, hv, List.size_toArray, hl, ne_eq, not_true_eq_false, if_false, hr]
    unfold Oper.wp
    rw [hrun]
    have hs' := hs.change (q := .blk b (splice cs off us) T') hL hg.os hg.tape hg.output hg.size (fun c hc hne => hg.block c hc (fun ec => hne (Option.some.inj ec.symm))) (by simpa [Piece.holds] using hh) (fun c hc => .inl hc)
    exact hK _ _ (h.run _ _ (hf.skip _) hs')⟩
end stores

end Go.Proofs.YtlghgdgpbnlpmaaGreat
