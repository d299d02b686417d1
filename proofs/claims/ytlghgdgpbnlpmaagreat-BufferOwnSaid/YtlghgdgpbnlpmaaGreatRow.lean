/- What is proved: the rules of a small separation calculus over the kit's walk: slices that the call makes. Conditions: none. -/
import Derived.Test.YtlghgdgpbnlpmaaGreatDrawn
namespace Go.Proofs.YtlghgdgpbnlpmaaGreat
open Go.RowKit

def enumL {α : Type} : Nat → List α → List (Nat × α)
  | _, [] => []
  | i, x :: r => (i, x) :: enumL (i + 1) r
theorem splice_mid : ∀ (us done zs : List Value), us.length ≤ zs.length → splice (done ++ zs) done.length us = done ++ us ++ zs.drop us.length
  | [], done, zs, _ => by simp [splice]
  | u :: us, done, z :: zs, h => by
    simp only [List.length_cons] at h
    rw [splice]
    have e : (done ++ z :: zs).set done.length u = (done ++ [u]) ++ zs := by simp
    rw [e]
    have := splice_mid us (done ++ [u]) zs (by omega)
    simp only [List.length_append, List.length_cons, List.length_nil, Nat.zero_add] at this
    rw [this]
    simp
  | u :: us, done, [], h => by simp at h
theorem fill_rows (k : Nat) : ∀ (rows : List (List Value)) (vs : List Value) (i : Nat) (done zs : List Value), done.length = i * k → zs.length = rows.length * k → (∀ r ∈ rows, r.length = k) → vs.map Value.cells = rows.map List.toArray →
    Instr.fill (fun i => some (i * k, k)) (done ++ zs).toArray (enumL i vs) = some (done ++ rows.flatten).toArray
  | [], [], i, done, zs, _, hz, _, _ => by
    have : zs = [] := List.eq_nil_of_length_eq_zero (by simpa using hz)
    subst this
    simp [enumL, Instr.fill]
  | r :: rows, v :: vs, i, done, zs, hd, hz, hk, hv => by
    simp only [List.map_cons, List.cons.injEq] at hv
    have hr : r.length = k := hk r (List.mem_cons_self ..)
    simp only [List.length_cons, Nat.add_mul, Nat.one_mul] at hz
    rw [enumL, Instr.fill]
    simp only [hv.1, List.size_toArray, hr, ne_eq, not_true_eq_false, decide_false, Bool.false_or, List.length_append, hd, decide_eq_true_eq]
    rw [if_neg (by omega)]
    have hf := foldl_splice (i * k) r 0 (done ++ zs)
    have e1 : (List.toArray r).zipIdx.foldl (fun (cs : Array Value) (x : Value × Nat) => cs.setIfInBounds (i * k + x.2) x.1) (done ++ zs).toArray = (splice (done ++ zs) (i * k + 0) r).toArray := by
      rw [← hf]
      simp
    rw [show ((List.toArray r).zipIdx.foldl (fun (cs : Array Value) (x : Value × Nat) => match x with | (c, j) => cs.setIfInBounds (i * k + j) c) (done ++ zs).toArray) = (splice (done ++ zs) (i * k + 0) r).toArray from e1]
    rw [Nat.add_zero, ← hd, splice_mid r done zs (by omega)]
    have := fill_rows k rows vs (i + 1) (done ++ r) (zs.drop r.length) (by rw [List.length_append, hd, hr, Nat.add_mul, Nat.one_mul]) (by rw [List.length_drop]; omega) (fun r' h' => hk r' (List.mem_cons_of_mem _ h')) hv.2
    rw [this]
    simp
  | [], v :: vs, _, _, _, _, _, _, hv => by simp at hv
  | r :: rows, [], _, _, _, _, _, _, hv => by simp at hv

theorem flatten_len {k : Nat} : ∀ (rows : List (List Value)), (∀ r ∈ rows, r.length = k) → rows.flatten.length = rows.length * k
  | [], _ => by simp
  | r :: rows, h => by
    simp only [List.flatten_cons, List.length_append, List.length_cons, Nat.add_mul, Nat.one_mul]
    rw [flatten_len rows (fun r' h' => h r' (List.mem_cons_of_mem _ h')), h r (List.mem_cons_self ..)]
    omega
section opts
variable {P : Program} {e : Ent} {F : Slots} {H : Hp} {L : List Piece}
theorem opt_box {T : TypeId} {x : Operand} {v : Value} {cs : List Value} (hx : ev F x = v) (hv : v.cells = cs.toArray) :
    Opt P e (.box T x) F H L (fun v' H' L' => ∃ b : Nat, v' = .pointer (some ((⟨b, 0, none⟩ : Addr).add 0)) ∧ H' = H ∧ L' = .blk b cs T :: L) :=
  ⟨fun a o w K Q ho hop hs hK => by
    have hr : (execOp a.eval o).run P w = .ok (.value (.pointer (some ⟨w.heap.size, 0, none⟩))) (w.alloc (.cells cs.toArray T)) := by
      unfold execOp; rw [ho]; simp only; rw [hop x (by simp [Op.operands]), hx]
      simp only [Instr.box, newVar, newRow, newObj, hv]
      rfl
    unfold Oper.wp
    rw [hr]
    exact hK _ _ _ _ (hs.alloc cs.toArray T) ⟨_, rfl, rfl, rfl⟩⟩
theorem opt_alloc {T : TypeId} {cs : List Value} [h : Ze P T cs] :
    Opt P e (.alloc T) F H L (fun v' H' L' => ∃ b : Nat, v' = .pointer (some ((⟨b, 0, none⟩ : Addr).add 0)) ∧ H' = H ∧ L' = .blk b cs T :: L) :=
  ⟨fun a o w K Q ho hop hs hK => by
    obtain ⟨z, hz, hv⟩ := h.ex
    have hr : (execOp a.eval o).run P w = .ok (.value (.pointer (some ⟨w.heap.size, 0, none⟩))) (w.alloc (.cells cs.toArray T)) := by
      unfold execOp; rw [ho]
      simp only [Instr.alloc, Sem.run_bind, hz, Result.andThen_ok, newVar, newRow, newObj, hv]
      rfl
    unfold Oper.wp
    rw [hr]
    exact hK _ _ _ _ (hs.alloc cs.toArray T) ⟨_, rfl, rfl, rfl⟩⟩
theorem opt_store {T : TypeId} {x y : Operand} {v : Value} {us : List Value} {b off k : Nat} {cs : List Value} {T' : TypeId} (i : Nat)
    (hk : ∀ w, (sizeOf T).run P w = .ok k w) (hx : ev F x = .pointer (some ((⟨b, 0, none⟩ : Addr).add off))) (hL : L[i]? = some (.blk b cs T')) (hy : ev F y = v) (hv : v.cells = us.toArray) (hl : us.length = k)
    (hfit : Nat.ble (off + k) cs.length = true) (h1 : us.all Value.oneCell' = true) :
    Opt P e (.store T x y) F H L (fun _ H' L' => H' = H ∧ L' = L.set i (.blk b (splice cs off us) T')) :=
  ⟨fun a o w K Q ho hop hs hK => by
    have hp1 := hs.holds _ (List.mem_of_getElem? hL)
    obtain ⟨w', hr, hh, hg⟩ := run_storeCells_blk (P := P) us w cs off 0 hp1 (by have := Nat.le_of_ble_eq_true hfit; omega) h1
    have hrun : (execOp a.eval o).run P w = .ok .skip w' := by
      unfold execOp; rw [ho]; simp only; rw [hop x (by simp [Op.operands]), hop y (by simp [Op.operands]), hx, hy]
      simp only [Instr.storeAt, Instr.sureAddr, storeVar, Sem.run_bind, Sem.run_pure, Result.andThen_ok, hk, hv, List.size_toArray, hl, ne_eq, not_true_eq_false, if_false, hr]
    unfold Oper.wp
    rw [hrun]
    have hs' := hs.change (q := .blk b (splice cs off us) T') hL hg.os hg.tape hg.output hg.size (fun c hc hne => hg.block c hc (fun ec => hne (Option.some.inj ec.symm))) (by simpa [Piece.holds] using hh) (fun c hc => .inl hc)
    exact hK _ _ _ _ hs' ⟨rfl, rfl⟩⟩
theorem opt_buildSlice {T E : TypeId} {k bt m : Nat} [h : SlT P T E k bt] {xs : List Operand} {vs : List Value} {rows : List (List Value)} (hx : xs.map (ev F) = vs) (hv : vs.map Value.cells = rows.map List.toArray) (hk : ∀ r ∈ rows, r.length = k)
    (hm : rows.length = m) (hsm : m * k ≤ 16777216) :
    Opt P e (.buildSlice T m (enumL 0 xs).toArray) F H L (fun v' H' L' => ∃ b : Nat, v' = .slice (some ⟨b, 0, none⟩) m m ∧ H' = H ∧ L' = .row (.slice (some ⟨b, 0, none⟩) m m) E k rows :: L) :=
  ⟨fun a o w K Q ho hop hs hK => by
    obtain ⟨i0, z0, hi0, hz0, hk0, hb0, hzs0⟩ := h.ex
    have hen : ∀ (s : Nat) (ys : List Operand), (∀ y ∈ ys, a.eval y = ev F y) → (enumL s ys).map (fun x => (x.1, a.eval x.2)) = enumL s (ys.map (ev F)) := by
      intro s ys
      induction ys generalizing s with
      | nil => intro _; rfl
      | cons y ys ih => intro hy; simp only [enumL, List.map_cons]; rw [hy y (List.mem_cons_self ..), ih _ (fun y' h' => hy y' (List.mem_cons_of_mem _ h'))]
    have hops : ∀ y ∈ xs, a.eval y = ev F y := by
      intro y hy
      refine hop y ?_
      have : ∀ (s : Nat) (ys : List Operand), y ∈ ys → ∃ j, (j, y) ∈ enumL s ys := by
        intro s ys
        induction ys generalizing s with
        | nil => intro h'; cases h'
        | cons z ys ih =>
          intro h'
          rcases List.mem_cons.1 h' with rfl | h'
          · exact ⟨s, by simp [enumL]⟩
          · obtain ⟨j, hj⟩ := ih (s + 1) h'; exact ⟨j, by simp [enumL, hj]⟩
      obtain ⟨j, hj⟩ := this 0 xs hy
      simp only [Op.operands, List.mem_toArray, List.mem_map]
      exact ⟨(j, y), hj, rfl⟩
    have hfill : ∀ zs : Array Value, zs.size = m * k → Instr.fill (fun i => some (i * k, k)) zs (enumL 0 vs) = some rows.flatten.toArray := by
      intro zs hzs
      have := fill_rows k rows vs 0 [] zs.toList (by simp) (by rw [Array.length_toList, hzs, hm]) hk hv
      simpa using this
    have hlen : rows.flatten.length = m * k := by rw [← hm, flatten_len rows hk]
    have hsz : ∀ w : World, (sizeOf E).run P w = .ok k w := fun w => by simp [sizeOf, typeInfo, hi0, hk0]
    have hzv : ∀ w : World, (zeroValue E).run P w = .ok z0 w := fun w => by simp [zeroValue, typeInfo, hi0, hz0]
    have hbs : (Instr.buildSlice T m (enumL 0 vs).toArray).run P w = .ok (.slice (some ⟨w.heap.size, 0, none⟩) m m) (w.alloc (.cells rows.flatten.toArray E)) := by
      unfold Instr.buildSlice
      simp only [Sem.run_bind, run_underlying h.hu, Result.andThen_ok, hsz]
      rw [if_neg (by omega)]
      by_cases h0 : m * k = 0
      · rw [if_pos h0]
        simp only [Sem.run_bind, Sem.run_pure, Result.andThen_ok]
        rw [hfill _ (by simp)]
        rfl
      · rw [if_neg h0]
        simp only [Sem.run_bind, hzv, Sem.run_pure, Result.andThen_ok]
        rw [hfill _ (by simp)]
        rfl
    have hr : (execOp a.eval o).run P w = .ok (.value (.slice (some ⟨w.heap.size, 0, none⟩) m m)) (w.alloc (.cells rows.flatten.toArray E)) := by
      unfold execOp; rw [ho]
      simp only [List.map_toArray]
      rw [show (fun x : Nat × Operand => match x with | (i, x) => (i, a.eval x)) = (fun x => (x.1, a.eval x.2)) from rfl, hen 0 xs hops, hx]
      simp only [Sem.run_bind, hbs, Result.andThen_ok, Sem.run_pure]
    have hs' := hs.alloc rows.flatten.toArray E
    have hml : m ≤ 16777216 := by have := h.hpos; exact Nat.le_trans (Nat.le_mul_of_pos_right m this) hsm
    unfold Oper.wp
    rw [hr]
    refine hK _ _ H _ ?_ ⟨_, rfl, rfl, rfl⟩
    have h1 := hs'.change (i := 0) (p := .blk w.heap.size rows.flatten E) (q := .row (.slice (some ⟨w.heap.size, 0, none⟩) m m) E k rows) (w' := w.alloc (.cells rows.flatten.toArray E)) (by simp) rfl rfl rfl (Nat.le_refl _) (fun _ _ _ => rfl)
      ⟨⟨by rw [hlen, hm], .inr ⟨w.heap.size, m, rows.flatten.toArray, by rw [hm], Nat.zero_le _, heap_alloc_new w _, by omega, by simp only [maxLen]; omega, by simp only [List.size_toArray]; exact hlen, by rw [hm, ← hlen]; exact List.take_length⟩⟩, hk⟩
      (fun b hb => .inl (by simpa [Piece.hasB, Value.ownBlock] using hb))
    simpa using h1⟩

/-- the rows of a slice that lies ready to be read, in the frozen part or owned -/
structure RSrc (H : Hp) (L : List Piece) (v : Value) (k : Nat) (rows : List (List Value)) : Prop where
  lens : ∀ r ∈ rows, r.length = k
  at_ : ∃ a c, v = .slice a rows.length c ∧ ∀ e w, Sees e H L w → (rows = [] ∨ ∃ ad, a = some ad ∧ ∀ j u, rows.flatten[j]? = some u → w.cell? (ad.add j) = some u)
theorem rsrc_row {i : Nat} {v : Value} {E : TypeId} {k : Nat} {rows : List (List Value)} {a : Option Addr} {n c : Nat} (hL : L[i]? = some (.row v E k rows)) (hv : v = .slice a n c) (hn : n = rows.length) (hlen : ∀ r ∈ rows, r.length = k) : RSrc H L v k rows :=
  ⟨hlen, a, c, by rw [hv, hn], fun e w hs => by
    have hp1 := hs.holds _ (List.mem_of_getElem? hL)
    subst hv
    rcases hp1.1.2 with ⟨h1, h2⟩ | ⟨g, cap, cur, h1, h2⟩
    · exact .inl (List.eq_nil_of_length_eq_zero h2)
    · cases h1
      exact .inr ⟨_, rfl, hp1.1.cells (g := g) rfl⟩⟩
theorem run_append_nil_src {P : Program} {t ty E : TypeId} {k bt : Nat} [h : SlT P t E k bt] {w : World} {v : Value} {rows : List (List Value)} (hown : w.ownsRow 0 E k v rows.length rows.flatten) (a : Option Addr) (c : Nat) :
    (Builtin.append_ #[t, t] ty #[v, .slice a 0 c]).run P w = .ok v w := by
  obtain ⟨i0, z0, hi0, hz0, hk0, hb0, hzs0⟩ := h.ex
  rcases hown.2 with ⟨rfl, hl⟩ | ⟨g, cap, cur, rfl, _, _, hnc, _⟩
  · cases a <;> simp [Builtin.append_, run_underlying h.hu, sizeOf, typeInfo, hi0, Builtin.lenOf, Builtin.firstCells, loadCells, loadCellsFrom]
  · cases a <;> simp [Builtin.append_, run_underlying h.hu, sizeOf, typeInfo, hi0, Builtin.lenOf, Builtin.firstCells, loadCells, loadCellsFrom, hnc, storeCells]
theorem own_form {w : World} {E : TypeId} {k : Nat} {v : Value} {n : Nat} {xs : List Value} (h : w.ownsRow 0 E k v n xs) : ∃ a c, v = .slice a n c ∧ n ≤ c ∧ c ≤ maxLen ∧ (0 < n → ∃ g, a = some ⟨g, 0, none⟩) := by
  rcases h.2 with ⟨rfl, hl⟩ | ⟨g, cap, cur, rfl, _, _, hnc, hm, _⟩
  · exact ⟨none, 0, by rw [hl], by omega, Nat.zero_le _, fun h0 => by omega⟩
  · exact ⟨_, cap, rfl, hnc, hm, fun _ => ⟨g, rfl⟩⟩
theorem opt_append {t E : TypeId} {k bt : Nat} [h : SlT P t E k bt] {s x : Operand} {v u : Value} {rows rows' : List (List Value)} (i : Nat) (hs1 : ev F s = v) (hL : L[i]? = some (.row v E k rows)) (hx1 : ev F x = u) (hr : RSrc H L u k rows')
    (h1 : ∀ c ∈ rows'.flatten, c.oneCell' = true) (h63 : rows.length + rows'.length ≤ maxLen) (hbytes : (rows.length + rows'.length) * bt ≤ 140737488355328) :
    Opt P e (.call { callee := .builtin .append, args := #[s, x], argTypes := #[t, t] }) F H L (fun v' H' L' => ∃ a c, v' = .slice a (rows.length + rows'.length) c ∧ rows.length + rows'.length ≤ c ∧ c ≤ maxLen ∧ (0 < rows.length + rows'.length → ∃ g, a = some ⟨g, 0, none⟩) ∧ H' = H ∧ L' = L.set i (.row v' E k (rows ++ rows'))) :=
  ⟨fun ac o w K Q ho hop hs hK => by
    have hp1 := hs.holds _ (List.mem_of_getElem? hL)
    have hsrc : ac.eval s = v := (hop s (by simp [Op.operands, Call.operands])).trans hs1
    have hxrc : ac.eval x = u := (hop x (by simp [Op.operands, Call.operands])).trans hx1
    have key : ∃ v' w', (Builtin.append_ #[t, t] o.type #[v, u]).run P w = .ok v' w' ∧ w'.ownsRow 0 E k v' (rows.length + rows'.length) (rows ++ rows').flatten ∧ w.grownBy w' v.ownBlock ∧ (v'.ownBlock = v.ownBlock ∨ v'.ownBlock = some w.heap.size) := by
      obtain ⟨a, c, hu, hat⟩ := hr.at_
      subst hu
      rcases hat e w hs with hnil | ⟨ad, ha, hcells⟩
      · subst hnil
        exact ⟨v, w, run_append_nil_src (h := h) hp1.1 a c, by simpa using hp1.1, ⟨rfl, rfl, rfl, Nat.le_refl _, fun _ _ _ => rfl⟩, .inl rfl⟩
      · subst ha
        obtain ⟨i0, z0, hi0, hz0, hk0, hb0, hzs0⟩ := h.ex
        obtain ⟨v', w', hrun, h2, h3, _, h5⟩ := run_append_own_at (P := P) w 0 t o.type E i0 z0 k bt h.hu hi0 hz0 hk0 hb0 hzs0 h.hpos v rows.length rows.flatten hp1.1 ad rows'.length c rows'.flatten (flatten_len rows' hr.lens) hcells h1 h63 hbytes (Nat.zero_le _)
        exact ⟨v', w', hrun, by simpa using h2, h3, h5⟩
    obtain ⟨v', w', hrun, h2, h3, h5⟩ := key
    have hr2 : (execOp ac.eval o).run P w = .ok (.value v') w' := by
      unfold execOp; rw [ho]
      simp only [resolve, invoke, builtin, Sem.run_bind, Sem.run_pure, Result.andThen_ok, List.map_toArray, List.map_cons, List.map_nil, hsrc, hxrc, hrun]
    unfold Oper.wp
    rw [hr2]
    have hlen : (rows ++ rows').length = rows.length + rows'.length := List.length_append
    have hs' := hs.change (q := .row v' E k (rows ++ rows')) hL h3.os h3.tape h3.output h3.size (fun b hb hne => h3.block b hb (fun eb => hne eb.symm))
      ⟨by rw [hlen]; exact h2, fun r hr' => (List.mem_append.1 hr').elim (hp1.2 r) (hr.lens r)⟩ (fun b hb => by
        have hb' : v'.ownBlock = some b := hb
        rcases h5 with h6 | h6
        · left
          show v.ownBlock = some b
          rw [← h6, hb']
        · rw [h6] at hb'
          cases hb'
          exact .inr (Nat.le_refl _))
    obtain ⟨a, c, e1, e2, e3, e4⟩ := own_form h2
    exact hK _ _ _ _ hs' ⟨a, c, e1, e2, e3, e4, rfl, rfl⟩⟩
end opts

/-- a nil slice is owned -/
theorem Sees.nilrow {e : Ent} {H : Hp} {L : List Piece} {w : World} (h : Sees e H L w) (E : TypeId) (k : Nat) : Sees e H (.row (.slice none 0 0) E k [] :: L) w := by
  refine ⟨h.os, h.tape, h.output, h.size, h.keep, h.le0, h.le, h.new, ?_, ?_, ?_, ?_⟩
  · intro p hp
    rcases List.mem_cons.1 hp with rfl | hp
    · exact ⟨World.ownsRow_nil w 0 E k, fun r hr => by simp at hr⟩
    · exact h.holds p hp
  · intro p hp b hb
    rcases List.mem_cons.1 hp with rfl | hp
    · simp [Piece.hasB, Value.ownBlock] at hb
    · exact h.apart p hp b hb
  · exact List.pairwise_cons.2 ⟨fun q _ b hb => by simp [Piece.hasB, Value.ownBlock] at hb, h.pw⟩
  · intro p hp b hb
    rcases List.mem_cons.1 hp with rfl | hp
    · simp [Piece.hasB, Value.ownBlock] at hb
    · exact h.from_ p hp b hb
/-- an owned piece is given up: from then on it is frozen -/
theorem Sees.freeze {e : Ent} {H : Hp} {L : List Piece} {w : World} (h : Sees e H L w) {p : Piece} {L1 : List Piece} (hL : L.Perm (p :: L1)) :
    ∃ H', Hp.le H H' ∧ Sees e H' L1 w ∧ ∀ b, p.hasB b → H' b = w.heap[b]? := by
  have h1 := h.perm hL
  have hpw := List.pairwise_cons.1 h1.pw
  classical
  refine ⟨fun b => if p.hasB b then w.heap[b]? else H b, ?_, ?_, fun b hb => by simp [hb]⟩
  · intro b o ho
    simp only
    split
    · rename_i hb
      have := h1.apart p (List.mem_cons_self ..) b hb
      rw [ho] at this
      cases this
    · exact ho
  · refine ⟨h.os, h.tape, h.output, h.size, h.keep, ?_, ?_, ?_, fun q hq => h1.holds q (List.mem_cons_of_mem _ hq), ?_, hpw.2, fun q hq => h1.from_ q (List.mem_cons_of_mem _ hq)⟩
    · intro b o ho
      have := h.le0 b o ho
      simp only
      split
      · rename_i hb
        have h2 := h1.apart p (List.mem_cons_self ..) b hb
        rw [this] at h2
        cases h2
      · exact this
    · intro b o ho
      dsimp only at ho
      split at ho
      · exact ho
      · exact h.le b o ho
    · intro b hb
      have hb' : (if p.hasB b then w.heap[b]? else H b) ≠ none := hb
      clear hb
      split at hb'
      · rename_i hbp
        exact .inr (h1.from_ p (List.mem_cons_self ..) b hbp)
      · rename_i hbp; exact h.new b (by simpa using hb')
    · intro q hq b hb
      show (if p.hasB b then w.heap[b]? else H b) = none
      rw [if_neg (fun hbp => hpw.1 q hq b hbp hb)]
      exact h1.apart q (List.mem_cons_of_mem _ hq) b hb
section frz
variable {P : Program} {e : Ent} {n : Nat} {F : Slots} {H : Hp} {L : List Piece} {Q : Post} {ops : Array Oper} {rest : List Oper} {c : Code}
theorem t_nilrow (E : TypeId) (k : Nat) (h : Tri P e n c F H (.row (.slice none 0 0) E k [] :: L) Q) : Tri P e n c F H L Q := ⟨fun a w hf hs => h.run a w hf (hs.nilrow E k)⟩
theorem o_nilrow (E : TypeId) (k : Nat) (h : Ops P e n ops rest F H (.row (.slice none 0 0) E k [] :: L) Q) : Ops P e n ops rest F H L Q := ⟨fun a w hf hs => h.run a w hf (hs.nilrow E k)⟩
/-- what an owned row reads as, once it is frozen: each element's cells -/
theorem At_of_row {α : Type} {w : World} {E : TypeId} {k : Nat} {v : Value} {rows : List (List Value)} {H' : Hp} (hp1 : Piece.holds w (.row v E k rows)) (hH : ∀ b, (Piece.row v E k rows).hasB b → H' b = w.heap[b]?) {R : List Value → α → Prop} {l : List α}
    (hlen : rows.length = l.length) (hR : ∀ (i : Nat) (r : List Value) (x : α), rows[i]? = some r → l[i]? = some x → R r x) : ∃ a c, v = .slice a rows.length c ∧ Sl H' k R a rows.length c l := by
  obtain ⟨a, c, rfl, h1, h2, _⟩ := own_form hp1.1
  refine ⟨a, c, rfl, hlen, h1, h2, fun i x hx => ?_⟩
  have hil : i < rows.length := by rw [hlen]; exact (List.getElem?_eq_some_iff.1 hx).1
  have hri : rows[i]? = some rows[i] := List.getElem?_eq_getElem hil
  rcases hp1.1.2 with ⟨hv, h0⟩ | ⟨g, cap, cur, hv, _⟩
  · omega
  · cases hv
    refine ⟨⟨g, 0, none⟩, rows[i], rfl, hp1.2 _ (List.getElem_mem hil), ?_, hR i _ x hri hx⟩
    intro j u hu
    rw [add_add]
    have hc := hp1.1.cells (g := g) rfl _ _ (flatten_at hp1.2 hri hu)
    have hb := hH g rfl
    unfold cellH
    rw [add_block]
    show (match H' g with | some (.cells c _ _) => _ | _ => none) = some u
    rw [hb]
    have hc' := hc
    rw [← cellH_hp] at hc'
    unfold cellH at hc'
    rw [add_block] at hc'
    exact hc'
end frz

end Go.Proofs.YtlghgdgpbnlpmaaGreat
