/- What is proved: the rules of a small separation calculus over the kit's walk: what is written into parts of own slices. Conditions: none. -/
import Derived.Test.YtlghgdgpbnlpmaaGreatSto
namespace Go.Proofs.YtlghgdgpbnlpmaaGreat
open Go.RowKit

theorem splice_eq {us cs : List Value} {off : Nat} (h : off + us.length ≤ cs.length) : splice cs off us = cs.take off ++ us ++ cs.drop (off + us.length) := by
  have h1 : (cs.take off).length = off := by rw [List.length_take]; omega
  have := splice_mid us (cs.take off) (cs.drop off) (by rw [List.length_drop]; omega)
  rw [List.take_append_drop, h1, List.drop_drop] at this
  exact this
theorem chunkR {k : Nat} : ∀ (m : Nat) (xs : List Value), xs.length = m * k → ∃ T : List (List Value), T.length = m ∧ (∀ r ∈ T, r.length = k) ∧ T.flatten = xs
  | 0, xs, h => by
    have hn : xs = [] := List.eq_nil_of_length_eq_zero (by simpa using h)
    exact ⟨[], rfl, (fun r hr => by cases hr), by rw [hn]; rfl⟩
  | m + 1, xs, h => by
    rw [Nat.add_mul, Nat.one_mul] at h
    obtain ⟨T, h1, h2, h3⟩ := chunkR (k := k) m (xs.drop k) (by rw [List.length_drop]; omega)
    refine ⟨xs.take k :: T, by simp [h1], fun r hr => ?_, by simp [h3]⟩
    rcases List.mem_cons.1 hr with rfl | hr
    · rw [List.length_take]; omega
    · exact h2 r hr
theorem flat_take {k : Nat} {R : List (List Value)} (hk : ∀ r ∈ R, r.length = k) (i : Nat) : R.flatten.take (i * k) = (R.take i).flatten := by
  induction R generalizing i with
  | nil => simp
  | cons r R ih =>
    have hr := hk r (List.mem_cons_self ..)
    cases i with
    | zero => simp
    | succ i =>
      rw [List.flatten_cons, List.take_succ_cons, List.flatten_cons, Nat.add_mul, Nat.one_mul, List.take_append, List.take_of_length_le (by omega), hr, Nat.add_sub_cancel, ih (fun r' h' => hk r' (List.mem_cons_of_mem _ h'))]
theorem flat_drop {k : Nat} {R : List (List Value)} (hk : ∀ r ∈ R, r.length = k) (i : Nat) : R.flatten.drop (i * k) = (R.drop i).flatten := by
  induction R generalizing i with
  | nil => simp
  | cons r R ih =>
    have hr := hk r (List.mem_cons_self ..)
    cases i with
    | zero => simp
    | succ i =>
      rw [List.flatten_cons, List.drop_succ_cons, Nat.add_mul, Nat.one_mul, List.drop_append, List.drop_of_length_le (by omega), hr, Nat.add_sub_cancel, ih (fun r' h' => hk r' (List.mem_cons_of_mem _ h')), List.nil_append]
theorem rows_mid {α : Type} {rs T X : List α} {lo N : Nat} (hN : rs.length = N) (h : lo + X.length ≤ N) : ((rs ++ T).take lo ++ X ++ (rs ++ T).drop (lo + X.length)).take N = rs.take lo ++ X ++ rs.drop (lo + X.length) := by
  rw [List.take_append_of_le_length (l₁ := rs) (i := lo) (by omega), List.drop_append_of_le_length (l₁ := rs) (by omega), ← List.append_assoc]
  exact List.take_left' (by simp only [List.length_append, List.length_take, List.length_drop]; omega)
/-- an own row, with what lies behind its length -/
theorem row_open {w : World} {g N C k : Nat} {El : TypeId} {rs : List (List Value)} (h : (Piece.row (.slice (some ⟨g, 0, none⟩) N C) El k rs).holds w) :
    rs.length = N ∧ N ≤ C ∧ C ≤ maxLen ∧ (∀ r ∈ rs, r.length = k) ∧ ∃ T : List (List Value), T.length = C - N ∧ (∀ r ∈ rs ++ T, r.length = k) ∧ w.heap[g]? = some (.cells (rs ++ T).flatten.toArray El (0, 0)) := by
  obtain ⟨⟨hl, h1⟩, hk⟩ := h
  rcases h1 with ⟨h1, _⟩ | ⟨g', cap, cur, h1, _, hg, hnc, hcm, hcs, htk⟩
  · cases h1
  · cases h1
    have hcl : cur.toList.length = C * k := by rw [Array.length_toList, hcs]
    obtain ⟨T, t1, t2, t3⟩ := chunkR (k := k) (C - rs.length) (cur.toList.drop (rs.length * k)) (by rw [List.length_drop, hcl, ← Nat.sub_mul])
    refine ⟨rfl, hnc, hcm, hk, T, t1, fun r hr => (List.mem_append.1 hr).elim (hk r) (t2 r), ?_⟩
    rw [hg, List.flatten_append, t3, ← htk, List.take_append_drop]
theorem row_close {w : World} {g N C k : Nat} {El : TypeId} {R : List (List Value)} (hR : R.length = C) (hk : ∀ r ∈ R, r.length = k) (hN : N ≤ C) (hC : C ≤ maxLen) (hg : w.heap[g]? = some (.cells R.flatten.toArray El (0, 0))) :
    (Piece.row (.slice (some ⟨g, 0, none⟩) N C) El k (R.take N)).holds w := by
  have hl : (R.take N).length = N := by rw [List.length_take]; omega
  have hk' : ∀ r ∈ R.take N, r.length = k := fun r hr => hk r (List.mem_of_mem_take hr)
  refine ⟨⟨by rw [flatten_len _ hk'], .inr ⟨g, C, _, by rw [hl], Nat.zero_le _, hg, by rw [hl]; exact hN, hC, ?_, ?_⟩⟩, hk'⟩
  · rw [List.size_toArray, flatten_len _ hk, hR]
  · rw [hl]; exact flat_take hk N
/-- what lies in the block of an own row may be rewritten, and the row may be told with another length -/
theorem Sees.rewrite {P : Program} {e : Ent} {H : Hp} {L : List Piece} {w : World} (hs : Sees e H L w) {i g N C k : Nat} {El : TypeId} {rs : List (List Value)} (hL : L[i]? = some (.row (.slice (some ⟨g, 0, none⟩) N C) El k rs))
    {X : List (List Value)} (hX : ∀ r ∈ X, r.length = k) (h1 : X.flatten.all Value.oneCell' = true) {lo : Nat} (hlo : lo + X.length ≤ C) {N' : Nat} (hN' : N' ≤ C) :
    ∃ (T : List (List Value)) (w' : World), T.length = C - N ∧ (∀ r ∈ T, r.length = k) ∧ (storeCells ((⟨g, 0, none⟩ : Addr).add (lo * k)) X.flatten 0).run P w = .ok () w' ∧
      Sees e H (L.set i (.row (.slice (some ⟨g, 0, none⟩) N' C) El k (((rs ++ T).take lo ++ X ++ (rs ++ T).drop (lo + X.length)).take N'))) w' := by
  obtain ⟨hN, hNC, hC, hk, T, hT, hRT, hg⟩ := row_open (hs.holds _ (List.mem_of_getElem? hL))
  have hRl : (rs ++ T).length = C := by rw [List.length_append, hN, hT]; omega
  have hfit : lo * k + X.flatten.length ≤ (rs ++ T).flatten.length := by
    rw [flatten_len _ hX, flatten_len _ hRT, hRl, ← Nat.add_mul]
    exact Nat.mul_le_mul_right _ hlo
  obtain ⟨w', hr, hh, hgr⟩ := run_storeCells_blk (P := P) X.flatten w (rs ++ T).flatten (lo * k) 0 hg (by omega) h1
  refine ⟨T, w', hT, fun r hr => hRT r (List.mem_append_right _ hr), hr, ?_⟩
  have hsp : splice (rs ++ T).flatten (lo * k + 0) X.flatten = ((rs ++ T).take lo ++ X ++ (rs ++ T).drop (lo + X.length)).flatten := by
    rw [Nat.add_zero, splice_eq hfit, flatten_len _ hX, ← Nat.add_mul, flat_take hRT, flat_drop hRT]
    simp only [List.flatten_append]
  rw [hsp] at hh
  refine hs.change hL hgr.os hgr.tape hgr.output hgr.size (fun b hb hne => hgr.block b hb (fun ec => hne (by simp [Piece.hasB, Value.ownBlock, ec]))) ?_ (fun b hb => .inl (by simpa [Piece.hasB, Value.ownBlock] using hb))
  refine row_close ?_ ?_ hN' hC hh
  · rw [List.length_append, List.length_append, List.length_take, List.length_drop, hRl]; omega
  · intro r hr
    rcases List.mem_append.1 hr with hr | hr
    · rcases List.mem_append.1 hr with hr | hr
      · exact hRT r (List.mem_of_mem_take hr)
      · exact hX r hr
    · exact hRT r (List.mem_of_mem_drop hr)
/-- told with another length alone -/
theorem Sees.relen {e : Ent} {H : Hp} {L : List Piece} {w : World} (hs : Sees e H L w) {i g N C k : Nat} {El : TypeId} {rs : List (List Value)} (hL : L[i]? = some (.row (.slice (some ⟨g, 0, none⟩) N C) El k rs)) {N' : Nat} (hN' : N' ≤ C) :
    ∃ T : List (List Value), T.length = C - N ∧ (∀ r ∈ T, r.length = k) ∧ Sees e H (L.set i (.row (.slice (some ⟨g, 0, none⟩) N' C) El k ((rs ++ T).take N'))) w := by
  obtain ⟨hN, hNC, hC, hk, T, hT, hRT, hg⟩ := row_open (hs.holds _ (List.mem_of_getElem? hL))
  have hRl : (rs ++ T).length = C := by rw [List.length_append, hN, hT]; omega
  refine ⟨T, hT, fun r hr => hRT r (List.mem_append_right _ hr), ?_⟩
  exact hs.change hL rfl rfl rfl (Nat.le_refl _) (fun _ _ _ => rfl) (row_close hRl hRT hN' hC hg) (fun b hb => .inl (by simpa [Piece.hasB, Value.ownBlock] using hb))
/-- the cells of a part of an own row -/
theorem part_cells {e : Ent} {H : Hp} {L : List Piece} {w : World} (hs : Sees e H L w) {i g N C k : Nat} {El : TypeId} {rs : List (List Value)} (hL : L[i]? = some (.row (.slice (some ⟨g, 0, none⟩) N C) El k rs)) (lo n : Nat) :
    ∀ j u, ((rs.drop lo).take n).flatten[j]? = some u → w.cell? (((⟨g, 0, none⟩ : Addr).add (lo * k)).add j) = some u := by
  intro j u hu
  have hp := hs.holds _ (List.mem_of_getElem? hL)
  rw [add_add]
  refine hp.1.cells (g := g) rfl _ _ ?_
  rw [← flat_take (fun r hr => hp.2 r (List.mem_of_mem_drop hr)), ← flat_drop hp.2] at hu
  rw [List.getElem?_take] at hu
  split at hu
  · rw [List.getElem?_drop] at hu
    exact hu
  · cases hu
theorem rsrc_part {H : Hp} {L : List Piece} {i g N C k lo n : Nat} {El : TypeId} {rs : List (List Value)} (hL : L[i]? = some (.row (.slice (some ⟨g, 0, none⟩) N C) El k rs)) (hk : ∀ r ∈ rs, r.length = k) (hn : lo + n ≤ rs.length) {a : Option Addr}
    (hlC : rs.length ≤ C) (ha : lo < C → a = some ((⟨g, 0, none⟩ : Addr).add (lo * k))) : RSrc H L (.slice a n (C - lo)) k ((rs.drop lo).take n) := by
  have hl : ((rs.drop lo).take n).length = n := by rw [List.length_take, List.length_drop]; omega
  refine ⟨fun r hr => hk r (List.mem_of_mem_drop (List.mem_of_mem_take hr)), a, C - lo, by rw [hl], fun e w hs => ?_⟩
  by_cases h0 : n = 0
  · subst h0
    exact .inl (by simp)
  · exact .inr ⟨_, ha (by omega), part_cells hs hL lo n⟩
section ops
variable {P : Program} {e : Ent} {F : Slots} {H : Hp} {L : List Piece}
/-- copy into a part of an own row -/
theorem opt_copy {t t' E : TypeId} {k bt : Nat} [h : SlT P t E k bt] {s x : Operand} {g N C lo n m : Nat} {a : Option Addr} {c : Nat} {rs X : List (List Value)} {u : Value} (i : Nat) (hL : L[i]? = some (.row (.slice (some ⟨g, 0, none⟩) N C) E k rs))
    (hs1 : ev F s = .slice a n c) (ha : lo < C → a = some ((⟨g, 0, none⟩ : Addr).add (lo * k))) (hx1 : ev F x = u) (hr : RSrc H L u k X) (hm1 : m ≤ n) (hm2 : m ≤ X.length) (hm3 : m = n ∨ m = X.length) (hfit : lo + m ≤ N)
    (h1 : ∀ v ∈ (X.take m).flatten, v.oneCell' = true) :
    Opt P e (.call { callee := .builtin .copy, args := #[s, x], argTypes := #[t, t'] }) F H L (fun v' H' L' => v' = .int .i64 (m : Int) ∧ H' = H ∧ L' = L.set i (.row (.slice (some ⟨g, 0, none⟩) N C) E k (rs.take lo ++ X.take m ++ rs.drop (lo + m)))) :=
  ⟨fun ac o w K Q ho hop hs hK => by
    have hsrc : ac.eval s = .slice a n c := (hop s (by simp [Op.operands, Call.operands])).trans hs1
    have hxrc : ac.eval x = u := (hop x (by simp [Op.operands, Call.operands])).trans hx1
    obtain ⟨hN, hNC, hC, hk, _⟩ := row_open (hs.holds _ (List.mem_of_getElem? hL))
    obtain ⟨au, cu, hu, hat⟩ := hr.at_
    subst hu
    obtain ⟨i0, z0, hi0, hz0, hk0, hb0, hzs0⟩ := h.ex
    have hXm : ∀ r ∈ X.take m, r.length = k := fun r hr' => hr.lens r (List.mem_of_mem_take hr')
    have hXl : (X.take m).length = m := by rw [List.length_take]; omega
    have hmin : Nat.min X.length n = m := by
      show min X.length n = m
      omega
    obtain ⟨T, w', hT, hTk, hst, hse⟩ := Sees.rewrite (P := P) hs hL hXm (List.all_eq_true.2 h1) (lo := lo) (by omega) hNC
    have hrows := rows_mid (T := T) (X := X.take m) (lo := lo) hN (by omega)
    rw [hrows, hXl] at hse
    have hfc : (Builtin.firstCells k m (.slice au X.length cu)).run P w = .ok (X.take m).flatten.toArray w := by
      rcases hat e w hs with hnil | ⟨ad, hadd, hcells⟩
      · subst hnil
        have : m = 0 := by simpa using hm2
        subst this
        cases au <;> simp [Builtin.firstCells, loadCells, loadCellsFrom]
      · subst hadd
        have hc : ∀ j v, (X.take m).flatten[j]? = some v → w.cell? (ad.add j) = some v := fun j v hv => by
          refine hcells j v ?_
          rw [← flat_take hr.lens, List.getElem?_take] at hv
          split at hv
          · exact hv
          · cases hv
        have := run_loadCells_list (P := P) w ad (X.take m).flatten hc
        rw [flatten_len _ hXm, hXl] at this
        simpa [Builtin.firstCells] using this
    have hbase : (match a with | some a => storeCells a (X.take m).flatten | none => pure ()).run P w = .ok () w' := by
      by_cases hlC : lo < C
      · rw [ha hlC]; exact hst
      · have : m = 0 := by omega
        subst this
        have e0 : w' = w := by
          simp only [List.take_zero, List.flatten_nil, storeCells, Sem.run_pure, Result.ok.injEq, true_and] at hst
          exact hst.symm
        subst e0
        cases a <;> simp [storeCells]
    have hrun : (Builtin.copy_ #[t, t'] o.type #[.slice a n c, .slice au X.length cu]).run P w = .ok (goInt m) w' := by
      cases a with
      | none =>
        simp only [Sem.run_pure, Result.ok.injEq, true_and] at hbase
        subst hbase
        simp [Builtin.copy_, run_underlying h.hu, Builtin.lenOf, sizeOf, typeInfo, hi0, hmin, hk0, hfc]
      | some a =>
        simp only at hbase
        simp [Builtin.copy_, run_underlying h.hu, Builtin.lenOf, sizeOf, typeInfo, hi0, hmin, hk0, hfc, hbase]
    have hr2 : (execOp ac.eval o).run P w = .ok (.value (goInt m)) w' := by
      unfold execOp; rw [ho]
      simp only [resolve, invoke, builtin, Sem.run_bind, Sem.run_pure, Result.andThen_ok, List.map_toArray, List.map_cons, List.map_nil, hsrc, hxrc, hrun]
    unfold Oper.wp
    rw [hr2]
    exact hK _ _ _ _ hse ⟨rfl, rfl, rfl⟩⟩
theorem zero_rows {z : Array Value} {k : Nat} (hz : z.size = k) (h1 : ∀ c ∈ z.toList, c.oneCell' = true) (n : Nat) : ∃ Z : List (List Value), Z.length = n ∧ (∀ r ∈ Z, r.length = k) ∧ Z.flatten = (Builtin.zeroCells z n).toList ∧ Z.flatten.all Value.oneCell' = true := by
  obtain ⟨Z, h2, h3, h4⟩ := chunkR (k := k) n (Builtin.zeroCells z n).toList (by rw [Array.length_toList, size_zeroCells, hz])
  refine ⟨Z, h2, h3, h4, ?_⟩
  rw [h4, List.all_eq_true]
  intro c hc
  simp only [Builtin.zeroCells, Array.toList_map, Array.toList_range, List.mem_map, List.mem_range] at hc
  obtain ⟨i, hi, rfl⟩ := hc
  have hpos : 0 < z.size := by
    rcases Nat.eq_zero_or_pos z.size with h0 | h0
    · rw [h0] at hi; simp at hi
    · exact h0
  have hlt := Nat.mod_lt i hpos
  rw [getElem!_pos z (i % z.size) hlt]
  exact h1 _ (by simp)
theorem opt_clear {t E : TypeId} {k bt : Nat} [h : SlT P t E k bt] {x : Operand} {g N C lo n : Nat} {a : Option Addr} {c : Nat} {rs : List (List Value)} (i : Nat) (hL : L[i]? = some (.row (.slice (some ⟨g, 0, none⟩) N C) E k rs))
    (hx1 : ev F x = .slice a n c) (ha : lo < C → a = some ((⟨g, 0, none⟩ : Addr).add (lo * k))) (hfit : lo + n ≤ C) (hz : ∀ i0 z, P.info? E = some i0 → i0.zero = some z → ∀ c ∈ z.cells.toList, c.oneCell' = true) :
    Opt P e (.call { callee := .builtin .clear, args := #[x], argTypes := #[t] }) F H L (fun _ H' L' => ∃ rs' : List (List Value), H' = H ∧ L' = L.set i (.row (.slice (some ⟨g, 0, none⟩) N C) E k rs') ∧
      (lo + n ≤ N → ∃ Z : List (List Value), Z.length = n ∧ (∀ r ∈ Z, r.length = k) ∧ rs' = rs.take lo ++ Z ++ rs.drop (lo + n)) ∧ (N ≤ lo → rs' = rs)) :=
  ⟨fun ac o w K Q ho hop hs hK => by
    have hxrc : ac.eval x = .slice a n c := (hop x (by simp [Op.operands, Call.operands])).trans hx1
    obtain ⟨hN, hNC, hC, hk, _⟩ := row_open (hs.holds _ (List.mem_of_getElem? hL))
    obtain ⟨i0, z0, hi0, hz0, hk0, hb0, hzs0⟩ := h.ex
    obtain ⟨Z, hZl, hZk, hZf, hZ1⟩ := zero_rows hzs0 (hz i0 z0 hi0 hz0) n
    obtain ⟨T, w', hT, hTk, hst, hse⟩ := Sees.rewrite (P := P) hs hL hZk hZ1 (lo := lo) (by omega) hNC
    have hrun : (Builtin.clear_ #[t] o.type #[.slice a n c]).run P w = .ok (.tuple #[]) w' := by
      by_cases h0 : n = 0
      · subst h0
        have hZ0 : Z = [] := List.eq_nil_of_length_eq_zero hZl
        subst hZ0
        have e0 : w' = w := by
          simp only [List.flatten_nil, storeCells, Sem.run_pure, Result.ok.injEq, true_and] at hst
          exact hst.symm
        subst e0
        cases a <;> simp [Builtin.clear_, run_underlying h.hu]
      · obtain ⟨m, rfl⟩ : ∃ m, n = m + 1 := ⟨n - 1, by omega⟩
        rw [ha (by omega)]
        rw [hZf] at hst
        simp [Builtin.clear_, run_underlying h.hu, zeroValue, typeInfo, hi0, hz0, hst]
    have hr2 : (execOp ac.eval o).run P w = .ok (.value (.tuple #[])) w' := by
      unfold execOp; rw [ho]
      simp only [resolve, invoke, builtin, Sem.run_bind, Sem.run_pure, Result.andThen_ok, List.map_toArray, List.map_cons, List.map_nil, hxrc, hrun]
    unfold Oper.wp
    rw [hr2]
    refine hK _ _ _ _ hse ⟨_, rfl, rfl, fun hle => ⟨Z, hZl, hZk, ?_⟩, fun hle => ?_⟩
    · rw [rows_mid hN (by omega), hZl]
    · rw [List.take_append_of_le_length (by simp only [List.length_append, List.length_take]; omega)]
      rw [List.take_append_of_le_length (by simp only [List.length_take, List.length_append]; omega), List.take_take, Nat.min_eq_left hle, List.take_left' hN]⟩
/-- append in place: what is behind the part is overwritten -/
theorem opt_appendIn {t E : TypeId} {k bt : Nat} [h : SlT P t E k bt] {s x : Operand} {g N C n : Nat} {a : Option Addr} {rs X : List (List Value)} {u : Value} (i : Nat) (hL : L[i]? = some (.row (.slice (some ⟨g, 0, none⟩) N C) E k rs))
    (hs1 : ev F s = .slice a n C) (ha : 0 < C → a = some ⟨g, 0, none⟩) (hx1 : ev F x = u) (hr : RSrc H L u k X) (h0 : 0 < N) (hfit : n + X.length ≤ N) (h1 : ∀ v ∈ X.flatten, v.oneCell' = true) :
    Opt P e (.call { callee := .builtin .append, args := #[s, x], argTypes := #[t, t] }) F H L (fun v' H' L' => v' = .slice (some ⟨g, 0, none⟩) (n + X.length) C ∧ H' = H ∧ N ≤ C ∧ L' = L.set i (.row (.slice (some ⟨g, 0, none⟩) (n + X.length) C) E k (rs.take n ++ X))) :=
  ⟨fun ac o w K Q ho hop hs hK => by
    have hsrc : ac.eval s = .slice a n C := (hop s (by simp [Op.operands, Call.operands])).trans hs1
    have hxrc : ac.eval x = u := (hop x (by simp [Op.operands, Call.operands])).trans hx1
    obtain ⟨hN, hNC, hC, hk, _⟩ := row_open (hs.holds _ (List.mem_of_getElem? hL))
    obtain ⟨au, cu, hu, hat⟩ := hr.at_
    subst hu
    obtain ⟨i0, z0, hi0, hz0, hk0, hb0, hzs0⟩ := h.ex
    have ha' := ha (by omega)
    subst ha'
    obtain ⟨T, w', hT, hTk, hst, hse⟩ := Sees.rewrite (P := P) hs hL hr.lens (List.all_eq_true.2 h1) (lo := n) (N' := n + X.length) (by omega) (by omega)
    have hrows : ((rs ++ T).take n ++ X ++ (rs ++ T).drop (n + X.length)).take (n + X.length) = rs.take n ++ X := by
      rw [List.take_append_of_le_length (l₁ := rs) (i := n) (by omega)]
      exact List.take_left' (by simp only [List.length_append, List.length_take]; omega)
    rw [hrows] at hse
    have hfc : (Builtin.firstCells k X.length (.slice au X.length cu)).run P w = .ok X.flatten.toArray w := by
      rcases hat e w hs with hnil | ⟨ad, hadd, hcells⟩
      · subst hnil
        cases au <;> simp [Builtin.firstCells, loadCells, loadCellsFrom]
      · subst hadd
        have := run_loadCells_list (P := P) w ad X.flatten hcells
        rw [flatten_len _ hr.lens] at this
        simpa [Builtin.firstCells] using this
    have hle : n + X.length ≤ C := by omega
    have hrun : (Builtin.append_ #[t, t] o.type #[.slice (some ⟨g, 0, none⟩) n C, .slice au X.length cu]).run P w = .ok (.slice (some ⟨g, 0, none⟩) (n + X.length) C) w' := by
      simp [Builtin.append_, run_underlying h.hu, Builtin.lenOf, sizeOf, typeInfo, hi0, hk0, hfc, hle, hst]
    have hr2 : (execOp ac.eval o).run P w = .ok (.value (.slice (some ⟨g, 0, none⟩) (n + X.length) C)) w' := by
      unfold execOp; rw [ho]
      simp only [resolve, invoke, builtin, Sem.run_bind, Sem.run_pure, Result.andThen_ok, List.map_toArray, List.map_cons, List.map_nil, hsrc, hxrc, hrun]
    unfold Oper.wp
    rw [hr2]
    exact hK _ _ _ _ hse ⟨rfl, rfl, hNC, rfl⟩⟩
/-- append of m elements of no value, where there is no room: a new row -/
theorem opt_appendGrow {t t' E : TypeId} {k bt : Nat} [h : SlT P t E k bt] {ik : IntKind} (hik : P.underlying t' = some (.int ik)) {s x : Operand} {g N C n m : Nat} {a : Option Addr} {rs : List (List Value)} (i : Nat) (hL : L[i]? = some (.row (.slice (some ⟨g, 0, none⟩) N C) E k rs))
    (hs1 : ev F s = .slice a n C) (ha : 0 < C → a = some ⟨g, 0, none⟩) (hx1 : ev F x = .int .i64 (m : Int)) (hn : n ≤ N) (h0 : 0 < m) (hroom : C < n + m) (hsm : n + m ≤ 2147483648) (hb : (n + m) * bt ≤ 140737488355328) :
    Opt P e (.call { callee := .builtin .append, args := #[s, x], argTypes := #[t, t'] }) F H L (fun v' H' L' => ∃ (b c : Nat) (Z : List (List Value)), v' = .slice (some ⟨b, 0, none⟩) (n + m) c ∧ n + m ≤ c ∧ H' = H ∧ Z.length = m ∧ (∀ r ∈ Z, r.length = k) ∧ L' = .row v' E k (rs.take n ++ Z) :: L) :=
  ⟨fun ac o w K Q ho hop hs hK => by
    have hsrc : ac.eval s = .slice a n C := (hop s (by simp [Op.operands, Call.operands])).trans hs1
    have hxrc : ac.eval x = .int .i64 (m : Int) := (hop x (by simp [Op.operands, Call.operands])).trans hx1
    obtain ⟨hN, hNC, hC, hk, _⟩ := row_open (hs.holds _ (List.mem_of_getElem? hL))
    obtain ⟨i0, z0, hi0, hz0, hk0, hb0, hzs0⟩ := h.ex
    have hge := grownCap_ge w (n + m) C E
    have hcm : grownCap w (n + m) C E ≤ maxLen := grownCap_le_maxLen w (n + m) C E (by simp only [maxLen]; omega)
    have hpre : ∀ r ∈ rs.take n, r.length = k := fun r hr => hk r (List.mem_of_mem_take hr)
    have hpl : (rs.take n).length = n := by rw [List.length_take]; omega
    have hnn : ¬ ((m : Int) < 0) := by omega
    have h63' : ¬ (9223372036854775807 < (n : Int) + (m : Int)) := by omega
    have h48 : ¬ (281474976710656 < (m : Int) * (i0.bytes : Int)) := by
      rw [hb0, ← Int.natCast_mul]
      have : m * bt ≤ (n + m) * bt := Nat.mul_le_mul_right _ (by omega)
      generalize (n + m) * bt = q at *
      generalize m * bt = q' at *
      omega
    have h48' : ¬ (281474976710656 < Builtin.nextslicecap (n + m) C * i0.bytes) := by
      have := growslice_fits (need := n + m) (old := C) (bytes := bt) hroom hb
      rw [hb0]
      omega
    have hw : IntKind.i64.wrap (m : Int) = (m : Int) := IntWalk.i64_in _ ⟨by omega, by omega⟩
    have hpos : 0 < k := h.hpos
    have hmk : ¬ (m * k = 0) := by intro hh; rcases Nat.mul_eq_zero.1 hh with h1 | h1 <;> omega
    have hnr : ¬ (n + m ≤ C) := by omega
    obtain ⟨Z, hZl, hZk, hZf⟩ := chunkR (k := k) m (Builtin.zeroCells z0.cells m).toList (by rw [Array.length_toList, size_zeroCells, hzs0])
    have hrun : (Builtin.append_ #[t, t'] o.type #[.slice a n C, .int .i64 (m : Int)]).run P w = .ok (.slice (some ⟨w.heap.size, 0, none⟩) (n + m) (grownCap w (n + m) C E)) (w.drew.alloc (.cells ((rs.take n).flatten.toArray ++ Builtin.zeroCells z0.cells m ++ Builtin.zeroCells z0.cells (grownCap w (n + m) C E - (n + m))) E)) := by
      have hfc' : (Builtin.firstCells k n (.slice a n C)).run P w.drew = .ok (rs.take n).flatten.toArray w.drew := by
        by_cases hn0 : n = 0
        · subst hn0
          cases a <;> simp [Builtin.firstCells, loadCells, loadCellsFrom]
        · rw [ha (by omega)]
          have hc : ∀ j v, (rs.take n).flatten[j]? = some v → w.drew.cell? ((⟨g, 0, none⟩ : Addr).add j) = some v := by
            have := part_cells hs.drew hL 0 n
            simpa [Addr.add] using this
          have := run_loadCells_list (P := P) w.drew ⟨g, 0, none⟩ (rs.take n).flatten hc
          rw [flatten_len _ hpre, hpl] at this
          simpa [Builtin.firstCells] using this
      simp [Builtin.append_, run_underlying h.hu, run_underlying hik, sizeOf, typeInfo, zeroValue, hi0, hz0, asInt, asIntOf, hw, hnn, h48, hnr, h63', h48', Question.forced, newRow, grownCap, hk0, hmk, hfc']
    have hr2 : (execOp ac.eval o).run P w = .ok (.value (.slice (some ⟨w.heap.size, 0, none⟩) (n + m) (grownCap w (n + m) C E))) (w.drew.alloc (.cells ((rs.take n).flatten.toArray ++ Builtin.zeroCells z0.cells m ++ Builtin.zeroCells z0.cells (grownCap w (n + m) C E - (n + m))) E)) := by
      unfold execOp; rw [ho]
      simp only [resolve, invoke, builtin, Sem.run_bind, Sem.run_pure, Result.andThen_ok, List.map_toArray, List.map_cons, List.map_nil, hsrc, hxrc, hrun]
    have hs' := hs.drew.alloc ((rs.take n).flatten.toArray ++ Builtin.zeroCells z0.cells m ++ Builtin.zeroCells z0.cells (grownCap w (n + m) C E - (n + m))) E
    have hlen : (rs.take n ++ Z).length = n + m := by rw [List.length_append, hpl, hZl]
    have hrk : ∀ r ∈ rs.take n ++ Z, r.length = k := fun r hr => (List.mem_append.1 hr).elim (hpre r) (hZk r)
    have hfl : (rs.take n ++ Z).flatten = (rs.take n).flatten ++ (Builtin.zeroCells z0.cells m).toList := by rw [List.flatten_append, hZf]
    have f1 : ((rs.take n).flatten.toArray ++ Builtin.zeroCells z0.cells m ++ Builtin.zeroCells z0.cells (grownCap w (n + m) C E - (n + m))).size = grownCap w (n + m) C E * k := by
      simp only [Array.size_append, List.size_toArray, size_zeroCells, hzs0, flatten_len _ hpre, hpl, ← Nat.add_mul]
      congr 1; omega
    have f2 : ((rs.take n).flatten.toArray ++ Builtin.zeroCells z0.cells m ++ Builtin.zeroCells z0.cells (grownCap w (n + m) C E - (n + m))).toList.take ((rs.take n ++ Z).length * k) = (rs.take n ++ Z).flatten := by
      rw [hlen, hfl]
      have hll : ((rs.take n).flatten ++ (Builtin.zeroCells z0.cells m).toList).length = (n + m) * k := by rw [← hfl, flatten_len _ hrk, hlen]
      simp only [Array.toList_append]
      rw [← hll]
      exact List.take_left
    have hh := hs'.change (i := 0) (q := .row (.slice (some ⟨w.heap.size, 0, none⟩) (n + m) (grownCap w (n + m) C E)) E k (rs.take n ++ Z)) (w' := w.drew.alloc (.cells ((rs.take n).flatten.toArray ++ Builtin.zeroCells z0.cells m ++ Builtin.zeroCells z0.cells (grownCap w (n + m) C E - (n + m))) E)) rfl rfl rfl rfl (Nat.le_refl _) (fun _ _ _ => rfl)
      ⟨⟨by rw [flatten_len _ hrk], .inr ⟨w.heap.size, _, _, by rw [hlen], Nat.zero_le _, heap_alloc_new w.drew _, by rw [hlen]; exact hge, hcm, f1, f2⟩⟩, hrk⟩
      (fun b hb => .inl (by simpa [Piece.hasB, Value.ownBlock] using hb))
    unfold Oper.wp
    rw [hr2]
    exact hK _ _ H _ (by simpa using hh) ⟨_, _, Z, rfl, hge, rfl, hZl, hZk, rfl⟩⟩
theorem splice_flat {k : Nat} {off0 : Nat} : ∀ (us : List Value) (R : List (List Value)) (off : Nat) {j : Nat} {r : List Value}, (∀ r ∈ R, r.length = k) → R[j]? = some r → off + us.length ≤ k → splice R.flatten (j * k + off) us = (R.set j (splice r off us)).flatten
  | [], R, off, j, r, hk, hj, _ => by
    obtain ⟨hjl, rfl⟩ := List.getElem?_eq_some_iff.1 hj
    simp [splice]
  | u :: us, R, off, j, r, hk, hj, hle => by
    simp only [List.length_cons] at hle
    rw [splice, splice, flatten_set hk hj (by omega), Nat.add_assoc]
    have hjl := (List.getElem?_eq_some_iff.1 hj).1
    have hk2 : ∀ q ∈ R.set j (r.set off u), q.length = k := fun q hq => by
      rcases List.mem_or_eq_of_mem_set hq with hq | rfl
      · exact hk q hq
      · rw [List.length_set]; exact hk r (List.mem_of_getElem? hj)
    rw [splice_flat (off0 := off0) us (R.set j (r.set off u)) (off + 1) (r := r.set off u) hk2 (by rw [List.getElem?_set_self hjl]) (by omega), List.set_set]
/-- a store of more cells into an own row -/
theorem opt_stoA {T E : TypeId} {x y : Operand} {v : Value} {us : List Value} {g N c off j sk k : Nat} {rows : List (List Value)} {r : List Value} (i : Nat) (hk : ∀ w, (sizeOf T).run P w = .ok k w) (hx : ev F x = .pointer (some (((⟨g, 0, none⟩ : Addr).add (j * sk)).add off)))
    (hL : L[i]? = some (.row (.slice (some ⟨g, 0, none⟩) N c) E sk rows)) (hj : rows[j]? = some r) (hy : ev F y = v) (hv : v.cells = us.toArray) (hl : us.length = k) (h1 : us.all Value.oneCell' = true) (hoff : off + k ≤ sk) :
    Opt P e (.store T x y) F H L (fun _ H' L' => H' = H ∧ L' = L.set i (.row (.slice (some ⟨g, 0, none⟩) N c) E sk (rows.set j (splice r off us)))) :=
  ⟨fun ac o w K Q ho hop hs hK => by
    obtain ⟨hN, hNC, hC, hlen, T0, hT, hRT, hg⟩ := row_open (hs.holds _ (List.mem_of_getElem? hL))
    have hjl := (List.getElem?_eq_some_iff.1 hj).1
    have hRl : (rows ++ T0).length = c := by rw [List.length_append, hN, hT]; omega
    have hj2 : (rows ++ T0)[j]? = some r := by rw [List.getElem?_append_left hjl]; exact hj
    have hfit : j * sk + off + 0 + us.length ≤ (rows ++ T0).flatten.length := by
      rw [flatten_len _ hRT, hRl]
      have : (j + 1) * sk ≤ c * sk := Nat.mul_le_mul_right _ (by omega)
      rw [Nat.add_mul, Nat.one_mul] at this
      omega
    obtain ⟨w', hr, hh, hgr⟩ := run_storeCells_blk (P := P) us w (rows ++ T0).flatten (j * sk + off) 0 hg hfit h1
    rw [Nat.add_zero, splice_flat (off0 := 0) us _ off hRT hj2 (by omega)] at hh
    have hadd : ((⟨g, 0, none⟩ : Addr).add (j * sk)).add off = (⟨g, 0, none⟩ : Addr).add (j * sk + off) := add_add _ _ _
    have hrun : (execOp ac.eval o).run P w = .ok .skip w' := by
      unfold execOp; rw [ho]; simp only; rw [hop x (by simp [Op.operands]), hop y (by simp [Op.operands]), hx, hy, hadd]
      simp only [Instr.storeAt, Instr.sureAddr, storeVar, Sem.run_bind, Sem.run_pure, Result.andThen_ok, hk, hv, List.size_toArray, hl, ne_eq, not_true_eq_false, if_false, hr]
    unfold Oper.wp
    rw [hrun]
    have hk2 : ∀ q ∈ (rows ++ T0).set j (splice r off us), q.length = sk := fun q hq => by
      rcases List.mem_or_eq_of_mem_set hq with hq | rfl
      · exact hRT q hq
      · rw [splice_length]; exact hlen r (List.mem_of_getElem? hj)
    have hcl := row_close (N := N) (by rw [List.length_set]; exact hRl) hk2 hNC hC hh
    rw [List.set_append_left _ _ hjl, List.take_left' (by rw [List.length_set]; exact hN)] at hcl
    have hs' := hs.change hL hgr.os hgr.tape hgr.output hgr.size (fun b hb hne => hgr.block b hb (fun ec => hne (by simp [Piece.hasB, Value.ownBlock, ec]))) hcl (fun b hb => .inl (by simpa [Piece.hasB, Value.ownBlock] using hb))
    exact hK _ _ _ _ hs' ⟨rfl, rfl⟩⟩
end ops
end Go.Proofs.YtlghgdgpbnlpmaaGreat
