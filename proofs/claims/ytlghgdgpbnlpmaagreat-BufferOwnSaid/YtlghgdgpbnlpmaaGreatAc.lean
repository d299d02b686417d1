/- What is proved: calls over abstract values. Conditions: none. -/
import Derived.Test.YtlghgdgpbnlpmaaGreatAb
namespace Go.Proofs.YtlghgdgpbnlpmaaGreat
open Go.RowKit

mutual
theorem ids_lt : ∀ (E : Env) (a : AV) (v : Value), V E a v → ∀ i ∈ idsA a, i < E.nx
  | E, .int _ _, v, h => by simp [idsA]
  | E, .bool _, v, h => by simp [idsA]
  | E, .str _, v, h => by simp [idsA]
  | E, .agg cs, v, h => by simp only [V] at h; obtain ⟨us, _, h2⟩ := h; simp only [idsA]; exact idsL_lt E cs us h2
  | E, .tup cs, v, h => by simp only [V] at h; obtain ⟨us, _, h2⟩ := h; simp only [idsA]; exact idsL_lt E cs us h2
  | E, .fn f cs, v, h => by simp only [V] at h; obtain ⟨us, _, h2⟩ := h; simp only [idsA]; exact idsL_lt E cs us h2
  | E, .nilfn, v, h => by simp [idsA]
  | E, .lst n rows, v, h => by simp [idsA]
  | E, .nils, v, h => by simp [idsA]
  | E, .own id n, v, h => by simp only [V] at h; simpa [idsA] using h.1
  | E, .fp cs off, v, h => by simp [idsA]
  | E, .op id off, v, h => by simp only [V] at h; simpa [idsA] using h.1
  | E, .orp id k j off, v, h => by simp only [V] at h; simpa [idsA] using h.1
  | E, .sub id k lo n C w, v, h => by simp only [V] at h; simpa [idsA] using h.1
  | E, .nilp, v, h => by simp [idsA]
  | E, .junk, v, h => by simp [idsA]
  | E, .undef, v, h => by simp [idsA]
  | E, .sval _ _ _, v, h => by simp [idsA]
theorem idsL_lt : ∀ (E : Env) (al : List AV) (us : List Value), VL E al us → ∀ i ∈ idsL al, i < E.nx
  | E, [], us, h => by simp [idsL]
  | E, a :: al, us, h => by
    simp only [VL] at h
    obtain ⟨u, us', _, h2, h3⟩ := h
    intro i hi
    simp only [idsL, List.mem_append] at hi
    rcases hi with hi | hi
    · exact ids_lt E a u h2 i hi
    · exact idsL_lt E al us' h3 i hi
end
theorem addN_lt {n : Nat} : ∀ (r acc : List Nat), (∀ i ∈ acc, i < n) → (∀ i ∈ r, i < n) → ∀ i ∈ addN acc r, i < n
  | [], acc, h, _ => h
  | x :: r, acc, h, hr => by
    rw [addN]
    cases hasN acc x with
    | true => exact addN_lt r acc h (fun i hi => hr i (List.mem_cons_of_mem _ hi))
    | false =>
      refine addN_lt r (acc ++ [x]) ?_ (fun i hi => hr i (List.mem_cons_of_mem _ hi))
      intro i hi
      simp only [List.mem_append, List.mem_singleton] at hi
      rcases hi with hi | rfl
      · exact h i hi
      · exact hr _ (List.mem_cons_self ..)
theorem cellIds_lt {E : Env} {h : List AP} {L : List Piece} (hh : VH E h L) : ∀ (r : List Nat), ∀ i ∈ cellIds h r, i < E.nx
  | [], i, hi => by simp [cellIds] at hi
  | x :: r, i, hi => by
    simp only [cellIds, List.mem_append] at hi
    rcases hi with hi | hi
    · split at hi
      · rename_i i0 id' cs T hp
        obtain ⟨_, _, q, _, hvp⟩ := pos_spec hh hp
        simp only [VP] at hvp
        obtain ⟨_, us, _, h3⟩ := hvp
        exact idsL_lt E cs us h3 i hi
      · cases hi
    · exact cellIds_lt hh r i hi
theorem rng_mem : ∀ (n i j : Nat), j ∈ rng i n → j < i + n
  | 0, i, j, h => by cases h
  | n + 1, i, j, h => by
    simp only [rng, List.mem_cons] at h
    rcases h with rfl | h
    · omega
    · have := rng_mem n (i + 1) j h; omega
theorem canon_lt {E : Env} {h : List AP} {L : List Piece} {al : List AV} {us : List Value} (hh : VH E h L) (ha : VL E al us) {base : Nat} (hb : base ≤ E.nx) : ∀ i ∈ canon base al h, i < E.nx := by
  have h0 : ∀ i ∈ rng 0 base, i < E.nx := fun i hi => by have := rng_mem base 0 i hi; omega
  have h1 := addN_lt (idsL al) (rng 0 base) h0 (idsL_lt E al us ha)
  have h2 := addN_lt (cellIds h (addN (rng 0 base) (idsL al))) _ h1 (cellIds_lt hh _)
  unfold canon
  simp only [forceN_eq]
  exact addN_lt _ _ h2 (cellIds_lt hh _)

theorem pfz_ok {E : Env} {hj : List AP} {L1 : List Piece} {H2 : Hp} (f : Frz E hj L1 H2) : TrOk (pfz hj) E { E with H := H2 } where
  H := f.H
  own id n v hv := by
    simp only [pfz]
    cases hr : rowOf hj id with
    | none => simp only [V] at hv ⊢; exact hv
    | some rows => exact (frz_row f hr hv).mono (Env.le.of (Hp.le.refl _))
  op id off v hv := by
    simp only [pfz]
    cases hr : blkOf hj id with
    | none => simp only [V] at hv ⊢; exact hv
    | some cs => exact (frz_blk f hr hv).mono (Env.le.of (Hp.le.refl _))
  orp id k j off v hv := by
    simp only [pfz]
    cases hr : rowOf hj id with
    | none => simp only [V] at hv ⊢; exact hv
    | some rows => simp only [V]
  sub id k lo n C w v hv := by
    simp only [pfz]
    cases hr : rowOf hj id with
    | none => simp only [V] at hv ⊢; exact hv
    | some rows => simp only [V]
  nils v hv := by simpa only [V, pfz] using hv
theorem VH_pfz {E : Env} {hj : List AP} {L1 : List Piece} {H2 : Hp} (f : Frz E hj L1 H2) : ∀ {h : List AP} {L : List Piece}, VH E h L → VH { E with H := H2 } (h.map (pfP hj)) L
  | [], L, hl => by simpa only [VH, List.map_nil] using hl
  | p :: h, L, hl => by
    simp only [VH] at hl
    obtain ⟨q, L', rfl, h2, h3⟩ := hl
    simp only [List.map_cons, VH]
    refine ⟨q, L', rfl, ?_, VH_pfz f h3⟩
    cases p with
    | blk id cs T =>
      simp only [VP] at h2
      obtain ⟨h1, us, h4, h5⟩ := h2
      simp only [pfP, VP]
      exact ⟨h1, us, h4, VL_tr (pfz_ok f) cs us h5⟩
    | row id El k rows =>
      simp only [VP] at h2
      obtain ⟨h1, h0, rs, h4, h5⟩ := h2
      simp only [pfP, VP]
      exact ⟨h1, h0, rs, h4, VLL_mono (Env.le.fz (E := E) (E' := { E with H := H2 }) f.H) h5⟩
    | bag id rs =>
      simp only [VP] at h2
      simp only [pfP, VP]
      exact h2
section sound
variable {P : Program} {e : Ent} {E : Env} {s : AS} {F : Slots} {L : List Piece}
/-- some pieces are given up for good -/
theorem frzS_spec (js : List Nat) (hr : RS E s F L) {w : World} (hs : Sees e E.H L w) : ∃ H2 L1 L2, Hp.le E.H H2 ∧ Sees e H2 L2 w ∧ RS { E with H := H2 } (frzS js s) F L2 ∧ Frz E (pickA js s.h) L1 H2 := by
  obtain ⟨L1, L2, h1, h2, h3, _⟩ := pick_spec js hr.h
  have hs1 := hs.perm h3
  obtain ⟨H2, h4, h5, h6⟩ := freezeAll L1 hs1
  have f : Frz E (pickA js s.h) L1 H2 := ⟨h4, h1, fun p hp => ⟨w, hs1.holds p (List.mem_append_left _ hp), h6 p hp⟩⟩
  cases js with
  | nil =>
    simp only [pickR] at h2
    have hle : E.le { E with H := H2 } := ⟨h4, Nat.le_refl _, fun _ _ => rfl, fun _ _ => rfl⟩
    exact ⟨H2, L1, L2, h4, h5, ⟨fun t => (hr.f t).mono hle, VH_mono hle h2, hr.nx⟩, f⟩
  | cons j js => exact ⟨H2, L1, L2, h4, h5, ⟨fun t => V_tr (pfz_ok f) _ _ (hr.f t), VH_pfz f h2, hr.nx⟩, f⟩
theorem backN_ok {E' : Env} {js : List Nat} {nx N : Nat} (hj : ∀ j ∈ js, j < nx) (hE : (E.sel js).le E') (hN : E'.nx = N) :
    RenOk (fun i => some (backN js.length nx js i)) E' ⟨E'.H, fun i => bif Nat.ble (i + 1) nx then E.m i else E'.m (i - nx + js.length), fun i => bif Nat.ble (i + 1) nx then E.g i else E'.g (i - nx + js.length), nx + (N - js.length)⟩ where
  H := Hp.le.refl _
  ok i i' h hi := by
    simp only [Option.some.injEq] at h
    subst h
    have hjn : js.length ≤ E'.nx := hE.nx
    cases hb : Nat.ble (i + 1) js.length with
    | true =>
      have hlt : i < js.length := Nat.le_of_ble_eq_true hb
      have hm : js.getD i 0 ∈ js := by rw [List.getD_eq_getElem?_getD, List.getElem?_eq_getElem hlt]; simp
      have h1 := hj _ hm
      have h2 : Nat.ble (js.getD i 0 + 1) nx = true := Nat.ble_eq_true_of_le h1
      simp only [backN, hb, cond_true, h2]
      have h3 := hE.m i hlt
      have h4 := hE.g i hlt
      exact ⟨by omega, h3.symm, h4.symm⟩
    | false =>
      have hge : js.length ≤ i := by
        rcases Nat.lt_or_ge i js.length with h' | h'
        · rw [Nat.ble_eq_true_of_le h'] at hb; cases hb
        · exact h'
      have h2 : Nat.ble (nx + (i - js.length) + 1) nx = false := by
        cases hc : Nat.ble (nx + (i - js.length) + 1) nx with
        | false => rfl
        | true => have := Nat.le_of_ble_eq_true hc; omega
      simp only [backN, hb, cond_false, h2]
      have h5 : nx + (i - js.length) - nx + js.length = i := by omega
      rw [h5]
      exact ⟨by omega, rfl, rfl⟩
theorem bq_call {ty : Nat → TyI} {k : AV → AS → Prop} {g : Operand} {xs : Array Operand} {ts : Array TypeId} (h : bq P ty s k (.call { callee := .value g, args := xs, argTypes := ts })) (hr : RS E s F L) :
    Opt P e (.call { callee := .value g, args := xs, argTypes := ts }) F E.H L (fun v' H' L' => ∃ E' s1 v, E'.H = H' ∧ E.le E' ∧ RS E' s1 F L' ∧ V E' v v' ∧ k v s1) := by
  simp only [bq] at h
  have hg := hr.ev g
  split at h
  · rename_i f caps hgf
    rw [hgf] at hg
    simp only [V] at hg
    obtain ⟨cs, hg, hcs⟩ := hg
    have hvs := hr.evs xs.toList
    rw [← evLA_eq] at hvs
    have hvs := VL_append hvs hcs
    have hargs : #[] ++ xs.map (Go.Proofs.YtlghgdgpbnlpmaaGreat.ev F) ++ cs.toArray = (xs.toList.map (Go.Proofs.YtlghgdgpbnlpmaaGreat.ev F) ++ cs).toArray := by rw [← Array.toList_map]; simp
    rcases h with ⟨R, hf, hk⟩ | h
    · -- frozen for good
      refine ⟨fun a o w K Q ho hop hs hK => ?_⟩
      obtain ⟨H2, L1, L2, h1, h2, h3, h4⟩ := frzS_spec (canon 0 (evLA s xs.toList ++ caps) s.h) hr hs
      have hF := hf H2 _ (VL_tr (fz1_ok h4) _ _ hvs)
      refine (opt_call (e := e) (F := F) (g := g) (xs := xs) (ts := ts) (first := #[]) (cap := cs.toArray) hg hargs hF (List.Perm.refl L2)).run a o w K Q ho hop h2 fun v w' H' L' hs' ⟨h5, O, h6, r, hR, h7⟩ => ?_
      subst h6
      refine hK v w' H' L2 (hs'.sub (List.sublist_append_right O L2)) ?_
      have hle : ({ E with H := H2 } : Env).le { E with H := H' } := ⟨h5, Nat.le_refl _, fun _ _ => rfl, fun _ _ => rfl⟩
      exact ⟨{ E with H := H' }, _, r, rfl, ⟨h1.trans h5, Nat.le_refl _, fun _ _ => rfl, fun _ _ => rfl⟩, h3.mono hle h3.nx, h7.mono (Env.le.of (Hp.le.refl _)), kx_self (hk r hR)⟩
    · -- handed over
      obtain ⟨m, R, hf, hb, hk⟩ : ∃ m, coA P f (evLA s xs.toList ++ caps) s m k := by
        rcases h with h | h
        · exact ⟨_, h⟩
        · exact ⟨_, h⟩
      rw [Bool.and_eq_true] at hb
      obtain ⟨hm, hlen⟩ := hb
      generalize hjs : canon m (evLA s xs.toList ++ caps) s.h = js at *
      have hjlt : ∀ j ∈ js, j < s.nx := by rw [← hjs, ← hr.nx]; exact canon_lt hr.h hvs (by rw [hr.nx]; exact Nat.le_of_ble_eq_true hm)
      obtain ⟨L1, L2, h1, h2, h3, h4⟩ := pick_spec js hr.h
      have hcall := hf (E.sel js) _ L1 (by rw [List.length_map, ← Nat.eq_of_beq_eq_true hlen]; rfl) (VL_tr (renT_ok (sel_ok E js)) _ _ hvs) (VH_ren (sel_ok E js) (fun p hp => idx_mem (h4 p hp)) h1)
      refine (opt_call (e := e) (F := F) (g := g) (xs := xs) (ts := ts) (first := #[]) (cap := cs.toArray) hg hargs hcall h3).mono ?_
      rintro v' H' L' ⟨hle, O, rfl, E', r, h', hEH, hEE, hv, hh, hnx, hR⟩
      subst hEH
      have hnx' : E'.nx = topN h' js.length := by rw [hnx, List.length_map, ← Nat.eq_of_beq_eq_true hlen]
      have hback := backN_ok hjlt hEE hnx'
      have hle2 : E.le ⟨E'.H, fun i => bif Nat.ble (i + 1) s.nx then E.m i else E'.m (i - s.nx + js.length), fun i => bif Nat.ble (i + 1) s.nx then E.g i else E'.g (i - s.nx + js.length), s.nx + (topN h' js.length - js.length)⟩ :=
        ⟨hEE.H, by show E.nx ≤ _; rw [hr.nx]; exact Nat.le_add_right _ _, fun i hi => by
          show (bif Nat.ble (i + 1) s.nx then E.m i else _) = _
          rw [show Nat.ble (i + 1) s.nx = true from Nat.ble_eq_true_of_le (by rw [← hr.nx]; exact hi)]; rfl, fun i hi => by
          show (bif Nat.ble (i + 1) s.nx then E.g i else _) = _
          rw [show Nat.ble (i + 1) s.nx = true from Nat.ble_eq_true_of_le (by rw [← hr.nx]; exact hi)]; rfl⟩
      have g1 := kx_self (hk r h' hR)
      try dsimp only at g1
      have g2 := fc_self g1
      try dsimp only at g2
      have g3 := fcI_self g2
      try dsimp only at g3
      have g4 := fcH_self g3
      try dsimp only at g4
      refine ⟨_, ⟨s.F, h'.map (renP fun i => some (backN js.length s.nx js i)) ++ pickR js s.h, s.nx + (topN h' js.length - js.length)⟩, tr (renT fun i => some (backN js.length s.nx js i)) r, ?_, hle2, ⟨fun t => (hr.f t).mono hle2, VH_append (VH_ren hback (fun p _ => ⟨_, rfl⟩) hh) (VH_mono hle2 h2), rfl⟩, V_tr (renT_ok hback) _ _ hv, g4⟩
      rfl
  · cases h
end sound
end Go.Proofs.YtlghgdgpbnlpmaaGreat
