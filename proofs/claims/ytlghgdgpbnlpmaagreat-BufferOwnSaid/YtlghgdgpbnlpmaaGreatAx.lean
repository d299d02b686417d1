/- What is proved: the computed condition is enough: whole functions. Conditions: none. -/
import Derived.Test.YtlghgdgpbnlpmaaGreatAw
namespace Go.Proofs.YtlghgdgpbnlpmaaGreat
open Go.RowKit

theorem t_loopW {P : Program} {e : Ent} {n : Nat} {F : Slots} {H : Hp} {L : List Piece} {Q : Post} {c : Code} (W : Nat → Bool) (J : Nat → Slots → Hp → List Piece → Prop) (k0 : Nat) (L0 : List Piece) (h00 : ∀ w, Sees e H L w → Sees e H L0 w) (h0 : J k0 F H L0)
    (round : ∀ k F1 H1 L1, Agr W F F1 → J k F1 H1 L1 → Tri P e n c F1 H1 L1 (fun x F2 H2 L2 => match x with
      | .normal => Agr W F F2 ∧ ∃ k', k' < k ∧ ∃ L3, (∀ w, Sees e H2 L2 w → Sees e H2 L3 w) ∧ J k' F2 H2 L3
      | x => Q x F2 H2 L2)) : Tri P e n (.loop c) F H L Q := by
  classical
  refine ⟨fun a w hf hs => ?_⟩
  let J' : Nat → Act → World → Prop := fun k a w => ∃ F' H' L', Fr a F' n ∧ Sees e H' L' w ∧ Agr W F F' ∧ J k F' H' L'
  let μ : Act → World → Nat := fun a w => if h : ∃ k, J' k a w then (least_ex h).choose else 0
  refine wp_loop (fun a w => ∃ k, J' k a w) μ ⟨k0, F, H, L0, hf, h00 w hs, Agr.refl _ _, h0⟩ ?_
  rintro a1 w1 hJ
  have hμ : μ a1 w1 = (least_ex hJ).choose := by simp only [μ, dif_pos hJ]
  obtain ⟨F1, H1, L1, hf1, hs1, hag1, hI1⟩ := (least_ex hJ).choose_spec.1
  have hr := round _ F1 H1 L1 hag1 hI1
  refine wp_mono (hr.run a1 w1 hf1 hs1) fun x a2 w2 ⟨F2, H2, L2, k1, k2, k3⟩ => ?_
  cases x with
  | normal =>
    obtain ⟨hag, k', hlt, L3, hsub, hI⟩ := k3
    have hJ2 : ∃ k, J' k a2 w2 := ⟨k', F2, H2, L3, k1, hsub w2 k2, hag, hI⟩
    refine ⟨hJ2, ?_⟩
    rw [hμ]
    have : μ a2 w2 = (least_ex hJ2).choose := by simp only [μ, dif_pos hJ2]
    rw [this]
    exact Nat.lt_of_le_of_lt ((least_ex hJ2).choose_spec.2 _ ⟨F2, H2, L3, k1, hsub w2 k2, hag, hI⟩) hlt
  | exit id => exact ⟨F2, H2, L2, k1, k2, k3⟩
  | goto l => exact ⟨F2, H2, L2, k1, k2, k3⟩
  | ret => exact ⟨F2, H2, L2, k1, k2, k3⟩
  | panic ch => exact ⟨F2, H2, L2, k1, k2, k3⟩
  | outgrown => exact ⟨F2, H2, L2, k1, k2, k3⟩
theorem wrO_mem {l : List Oper} : ∀ {d : Nat}, (∃ o ∈ l, o.dst = some d) → wrO l d = true := by
  induction l with
  | nil => rintro d ⟨o, h, _⟩; cases h
  | cons o0 l ih =>
    rintro d ⟨o, ho, hd⟩
    rw [wrO]
    rcases List.mem_cons.1 ho with rfl | ho
    · rw [hd]; simp only [Nat.beq_refl, cond_true]
    · cases h0 : o0.dst with
      | none => exact ih ⟨o, ho, hd⟩
      | some d0 =>
        simp only
        cases Nat.beq d0 d with
        | true => rfl
        | false => exact ih ⟨o, ho, hd⟩
theorem allDst_mem {n : Nat} : ∀ {l : List Oper}, allDst n l = true → ∀ o ∈ l, ∀ d, o.dst = some d → d < n
  | [], _, o, ho, d, hd => by cases ho
  | o0 :: l, h, o, ho, d, hd => by
    simp only [allDst, Bool.and_eq_true] at h
    rcases List.mem_cons.1 ho with rfl | ho
    · have := h.1
      rw [hd] at this
      exact Nat.le_of_ble_eq_true this
    · exact allDst_mem h.2 o ho d hd
theorem canonX_pre (a0 : List Nat) (vs : List AV) (h : List AP) : ∃ t, canonX a0 vs h = a0 ++ t := by
  unfold canonX
  simp only [forceN_eq]
  obtain ⟨t1, h1⟩ := addN_pre (idsL vs) a0
  simp only [h1]
  obtain ⟨t2, h2⟩ := addN_pre (cellIds h (a0 ++ t1)) (a0 ++ t1)
  simp only [h2]
  obtain ⟨t3, h3⟩ := addN_pre (cellIds h (a0 ++ t1 ++ t2)) (a0 ++ t1 ++ t2)
  exact ⟨t1 ++ (t2 ++ t3), by rw [h3]; simp⟩
theorem canonK_pre (base : Nat) (ks : List Nat) (vs : List AV) (h : List AP) : ∃ t, canonK base ks vs h = rng 0 base ++ t := by
  unfold canonK
  cases hasN ks 9999
  · exact canonX_pre (rng 0 base) vs h
  · exact addN_pre _ _
theorem canon_X (base : Nat) (vs : List AV) (h : List AP) : canon base vs h = canonX (rng 0 base) vs h := rfl
theorem sel_pre {E : Env} {a t : List Nat} : (E.sel a).le (E.sel (a ++ t)) where
  H := Hp.le.refl _
  nx := by simp [Env.sel]
  m i hi := by
    have : i < a.length := hi
    simp only [Env.sel, List.getD_eq_getElem?_getD, List.getElem?_append_left this]
  g i hi := by
    have : i < a.length := hi
    simp only [Env.sel, List.getD_eq_getElem?_getD, List.getElem?_append_left this]
theorem sel_base {E0 E : Env} {base : Nat} (hb : E0.nx = base) (h : E0.le E) {js : List Nat} (hj : ∃ t, js = rng 0 base ++ t) : E0.le (E.sel js) := by
  obtain ⟨t, rfl⟩ := hj
  have hg : ∀ i, i < base → (rng 0 base ++ t).getD i 0 = i := fun i hi => by
    rw [List.getD_eq_getElem?_getD, List.getElem?_append_left (by rw [rng_len]; exact hi), rng_get base 0 i hi]; simp
  refine ⟨h.H, by simp [Env.sel, rng_len]; omega, fun i hi => ?_, fun i hi => ?_⟩
  · simp only [Env.sel, hg i (by omega)]; exact h.m i hi
  · simp only [Env.sel, hg i (by omega)]; exact h.g i hi
theorem vals_V {E : Env} {s : AS} {F : Slots} {L : List Piece} (h : RS E s F L) : ∀ ss : List Nat, VL E (vals s.F ss) (ss.map F)
  | [] => by simp only [vals, List.map_nil, VL]
  | t :: ss => by simp only [vals, List.map_cons, VL]; exact ⟨_, _, rfl, h.f t, vals_V h ss⟩
theorem assocA_V {E : Env} {F : Slots} (t : Nat) : ∀ {ss : List Nat} {vs : List AV}, VL E vs (ss.map F) → V E (assocA ss vs t) (F t)
  | [], vs, h => by simp only [assocA, V]
  | s :: ss, [], h => by simp only [assocA, V]
  | s :: ss, v :: vs, h => by
    simp only [List.map_cons, VL, List.cons.injEq] at h
    obtain ⟨u, us', ⟨rfl, rfl⟩, h2, h3⟩ := h
    rw [assocA]
    cases hb : Nat.beq t s with
    | true => rw [cond_true, Nat.eq_of_beq_eq_true hb]; exact h2
    | false => rw [cond_false]; exact assocA_V t h3
theorem tb_eq (m t : Nat) : tb m t = m.testBit t := by
  unfold tb
  have h : Nat.land (Nat.shiftRight m t) 1 = (m >>> t) % 2 := Nat.and_one_is_mod (m >>> t)
  rw [h, Nat.testBit_eq_decide_div_mod_eq, Nat.shiftRight_eq_div_pow]
  cases hb : Nat.beq (m / 2 ^ t % 2) 1 with
  | true => rw [Nat.eq_of_beq_eq_true hb]; rfl
  | false =>
    have : m / 2 ^ t % 2 ≠ 1 := fun e => by rw [e] at hb; cases hb
    simp [this]
theorem tb_or (m d t : Nat) : tb (Nat.lor m (Nat.shiftLeft 1 d)) t = (tb m t || Nat.beq d t) := by
  rw [tb_eq, tb_eq]
  show (m ||| (1 <<< d)).testBit t = _
  rw [Nat.testBit_or, Nat.one_shiftLeft, Nat.testBit_two_pow]
  congr 1
  cases hb : Nat.beq d t with
  | true => simp [Nat.eq_of_beq_eq_true hb]
  | false => have : d ≠ t := fun e => by rw [e, Nat.beq_refl] at hb; cases hb
             simp [this]
theorem wrMO_tb : ∀ (l : List Oper) (m t : Nat), tb (wrMO l m) t = (tb m t || wrO l t)
  | [], m, t => by simp [wrMO, wrO]
  | o :: r, m, t => by
    rw [wrMO, wrO]
    cases hd : o.dst with
    | none => exact wrMO_tb r m t
    | some d =>
      simp only
      rw [wrMO_tb r, tb_or]
      cases Nat.beq d t <;> simp
theorem wrM_tb : ∀ (c : Code) (m t : Nat), tb (wrM c m) t = (tb m t || wrB c t)
  | .region _ ops _, m, t => by rw [wrM, wrB]; exact wrMO_tb _ m t
  | .seq a b, m, t => by rw [wrM, wrB, wrM_tb b, wrM_tb a]; cases wrB a t <;> simp
  | .cond _ a b, m, t => by rw [wrM, wrB, wrM_tb b, wrM_tb a]; cases wrB a t <;> simp
  | .block _ c, m, t => by rw [wrM, wrB, wrM_tb c]
  | .loop c, m, t => by rw [wrM, wrB, wrM_tb c]
  | .skip, m, t => by simp [wrM, wrB]
  | .rangeFunc _ _ _ _, m, t => by simp [wrM, wrB]
  | .exit _, m, t => by simp [wrM, wrB]
  | .scope _, m, t => by simp [wrM, wrB]
  | .label _, m, t => by simp [wrM, wrB]
  | .goto _, m, t => by simp [wrM, wrB]
  | .ret, m, t => by simp [wrM, wrB]
  | .refuse _, m, t => by simp [wrM, wrB]
theorem tb_zero (t : Nat) : tb 0 t = false := by rw [tb_eq]; exact Nat.zero_testBit t
theorem pushF_spec {M R : Nat} {G : Nat → AV} : ∀ (t : Nat) {F : Nat → AV} {k : (Nat → AV) → Prop}, pushF M R G t F k → ∃ F', k F' ∧ ∀ i, F' i = F i ∨ (tb M i = false ∧ F' i = G i)
  | 0, F, k, h => ⟨F, h, fun _ => .inl rfl⟩
  | t + 1, F, k, h => by
    rw [pushF] at h
    split at h
    · rename_i h1 h2
      obtain ⟨F', h3, h4⟩ := pushF_spec t (fc_self (k := fun v => pushF M R G t (updA F t v) k) h)
      refine ⟨F', h3, fun i => ?_⟩
      rcases h4 i with h5 | h5
      · cases hb : Nat.beq i t with
        | true => have := Nat.eq_of_beq_eq_true hb; subst this; exact .inr ⟨h1, by rw [h5]; simp only [updA, Nat.beq_refl, cond_true]⟩
        | false => exact .inl (by rw [h5]; simp only [updA, hb, cond_false])
      · exact .inr h5
    · exact pushF_spec t h
theorem updS_V {E : Env} {F : Slots} (t : Nat) {G : Nat → AV} (hG : V E (G t) (F t)) : ∀ {ss : List Nat} {vs : List AV}, VL E vs (ss.map F) → V E (updS ss vs G t) (F t)
  | [], vs, h => by simp only [updS]; exact hG
  | s :: ss, [], h => by simp only [updS]; exact hG
  | s :: ss, v :: vs, h => by
    simp only [List.map_cons, VL, List.cons.injEq] at h
    obtain ⟨u, us', ⟨rfl, rfl⟩, h2, h3⟩ := h
    simp only [updS, updA]
    cases hb : Nat.beq t s with
    | true => rw [cond_true, Nat.eq_of_beq_eq_true hb]; exact h2
    | false => rw [cond_false]; exact updS_V t hG h3
theorem idx_app {a : List Nat} {i p : Nat} (h : idx a i = some p) : p < a.length := (List.getElem?_eq_some_iff.1 (idx_spec h)).1

theorem flatC_V {E : Env} {a : AV} {v : Value} (h : V E a v) : V E (flatC a) v := by
  unfold flatC
  split
  · simp only [V] at h ⊢
    exact ⟨none, 0, 0, h, rfl, Nat.le_refl _, Nat.zero_le _, by simp only [VR]⟩
  · exact h
theorem flatL_V {E : Env} : ∀ {al : List AV} {us : List Value}, VL E al us → VL E (al.map flatC) us
  | [], us, h => by simpa only [List.map_nil] using h
  | a :: al, us, h => by
    simp only [VL, List.map_cons] at h ⊢
    obtain ⟨u, us', h1, h2, h3⟩ := h
    exact ⟨u, us', h1, flatC_V h2, flatL_V h3⟩
theorem VH_flat {E : Env} : ∀ {h : List AP} {L : List Piece}, VH E h L → VH E (flatH h) L
  | [], L, h => h
  | p :: h, L, hl => by
    simp only [flatH, List.map_cons, VH] at hl ⊢
    obtain ⟨q, L', h1, h2, h3⟩ := hl
    refine ⟨q, L', h1, ?_, VH_flat h3⟩
    cases p with
    | row id El k rows => exact h2
    | bag id rs => exact h2
    | blk id cs T =>
      simp only [flatP, VP] at h2 ⊢
      obtain ⟨h4, us, h5, h6⟩ := h2
      exact ⟨h4, us, h5, flatL_V h6⟩
theorem VRd_any {N M k : Nat} {I : Nat → List AP → Prop} {h' : List AP} (h : VRd N M k (fun k' => I k' h') (fun k' => I k' (flatH h'))) : Nat.ble N M = true ∧ ∃ k', k' < k ∧ ∃ hh, (∀ {E : Env} {L : List Piece}, VH E h' L → VH E hh L) ∧ I k' hh := by
  rcases h with ⟨h1, k', h2, h3⟩ | ⟨h1, k', h2, h3⟩
  · exact ⟨h1, k', h2, h', fun h => h, h3⟩
  · exact ⟨h1, k', h2, flatH h', VH_flat, h3⟩
section sound
variable {P : Program} {e : Ent} {n : Nat} {ty : Nat → TyI}
theorem lq_mono {E0 E1 : Env} {W W1 : Nat → Bool} {F0 : Slots} {Q : APost} (hE : E0.le E1) (hW : ∀ t, W1 t = true → W t = true) {x : Exit} {F' : Slots} {H' : Hp} {L' : List Piece} (h : lq E1 W1 F0 Q x F' H' L') : lq E0 W F0 Q x F' H' L' := by
  obtain ⟨E', s', h1, h2, h3, h4, h5⟩ := h
  exact ⟨E', s', h1, hE.trans h2, h3, h4, fun t ht => h5 t (by cases hw : W1 t with | false => rfl | true => rw [hW t hw] at ht; cases ht)⟩
theorem vcC_sound (ht : ∀ T, TyOk P T (ty T)) : ∀ (c : Code) (base : Nat) (Q : APost) {E0 E : Env} {s : AS} {F F0 : Slots} {L : List Piece} {W : Nat → Bool}, wrOk n c = true → (∀ t, wrB c t = true → W t = true) → vcC P ty n c base Q s → E0.nx = base → E0.le E → RS E s F L → Agr W F0 F → Tri P e n c F E.H L (lq E0 W F0 Q)
  | .skip, base, Q, E0, E, s, F, F0, L, W, hn, hW, h, hb, h0, hr, ha => by rw [vcC] at h; exact t_skip ⟨E, s, rfl, h0, hr, h, ha⟩
  | .exit id, base, Q, E0, E, s, F, F0, L, W, hn, hW, h, hb, h0, hr, ha => by rw [vcC] at h; exact t_exit ⟨E, s, rfl, h0, hr, h, ha⟩
  | .ret, base, Q, E0, E, s, F, F0, L, W, hn, hW, h, hb, h0, hr, ha => by rw [vcC] at h; exact t_ret ⟨E, s, rfl, h0, hr, h, ha⟩
  | .region id ops false, base, Q, E0, E, s, F, F0, L, W, hn, hW, h, hb, h0, hr, ha => by
    rw [vcC] at h
    have hl : ∀ o ∈ ops.toList, ∀ d, o.dst = some d → d < n ∧ W d = true := fun o ho d hd => ⟨allDst_mem hn o ho d hd, hW d (by rw [wrB]; exact wrO_mem ⟨o, ho, hd⟩)⟩
    have := t_region (id := id) (vcO_sound (e := e) ht hl ops.toList hl h h0 hr ha)
    simpa using this
  | .region id ops true, base, Q, E0, E, s, F, F0, L, W, hn, hW, h, hb, h0, hr, ha => by
    rw [vcC] at h
    rcases h with h | ⟨hok, h⟩ | h
    · obtain ⟨cl, zs, js, hok, h⟩ := h.ex
      have h := frzC_self (fcN_self h)
      have hl : ∀ o ∈ ops.toList, ∀ d, o.dst = some d → d < n ∧ W d = true := fun o ho d hd => ⟨allDst_mem hn o ho d hd, hW d (by rw [wrB]; exact wrO_mem ⟨o, ho, hd⟩)⟩
      refine ⟨fun a w hf hs => ?_⟩
      obtain ⟨H2, L1, L2, g1, g2, g3, _⟩ := frzS_spec (e := e) js hr hs
      have h0' : E0.le { E with H := H2 } := h0.trans ⟨g1, Nat.le_refl _, fun _ _ => rfl, fun _ _ => rfl⟩
      cases hT : hasN cl 2000 with
      | false =>
        rw [hT] at hok h
        have := t_draw (id := id) hok (vcF_sound (e := e) ht hl h0' _ h g3 ha)
        have := this.run a w hf g2
        simpa using this
      | true =>
        rw [hT] at hok h
        have hF := vcF_sound (e := e) (Q := fun _ s => fcOT (otOf ops.toList (tsOf cl ops.toList 0 ops.toList []) (tsOf cl ops.toList 0 ops.toList [])) fun t => vcTT P ty ops.toList (Q .normal) t s) ht hl h0' _ h g3 ha
        have := t_drawT (id := id) (Q := lq E0 W F0 Q) (fu := (tsOf cl ops.toList 0 ops.toList []).length) hok hF (fun F' hq => by
          obtain ⟨E', s', hE, h2, h3, h4, h5⟩ := hq
          rw [← hE]
          exact vcTT_sound ht hl _ _ (fcOT_self h4) h2 h3 h5)
        have := this.run a w hf g2
        simpa using this
    · have hl : ∀ o ∈ ops.toList, ∀ d, o.dst = some d → d < n ∧ W d = true := fun o ho d hd => ⟨allDst_mem hn o ho d hd, hW d (by rw [wrB]; exact wrO_mem ⟨o, ho, hd⟩)⟩
      have hp := t_par (e := e) (id := id) ht hok hr h
      have hid : (Code.region id ops.toList.toArray true) = .region id ops true := by simp
      rw [hid] at hp
      refine t_mono ?_ hp
      · rintro x F' H' L' ⟨rfl, E1, A, rfl, h2, h3, h4, h5⟩
        refine ⟨E1, _, rfl, h0.trans h2, h3, h4, fun t htw => ?_⟩
        rw [h5 t (fun j hj => ?_), ha t htw]
        have hjl := dstAt_lt hj
        have := (hl ops.toList[j] (List.getElem_mem hjl) t (by simpa [dstAt, List.getElem?_eq_getElem hjl] using hj)).2
        rw [htw] at this
        cases this
    · obtain ⟨cl, zs, ss, N, J, h⟩ := h.ex
      obtain ⟨hok, hv, hQ⟩ := fcI_self h
      have hl' : ∀ o ∈ ops.toList, ∀ d, o.dst = some d → d < n ∧ (fun t => wrO ops.toList t) d = true := fun o ho d hd => ⟨allDst_mem hn o ho d hd, wrO_mem ⟨o, ho, hd⟩⟩
      let Q1 : APost := fun x s' => match x with | .normal => joinA s.nx N ss J s' | _ => False
      have hF := vcF_sound (e := e) (E0 := E) (W := fun t => wrO ops.toList t) (F0 := F) (Q := fun _ s1 => fcOT (otOf ops.toList (tsOf cl ops.toList 0 ops.toList []) (tsOf cl ops.toList 0 ops.toList [])) fun t => vcTT P ty ops.toList (joinA s.nx N ss J) t s1) ht hl' (Env.le.refl E) _ hv hr (Agr.refl _ _)
      have hT := t_drawT (id := id) (Q := lq E (fun t => wrO ops.toList t) F Q1) (fu := (tsOf cl ops.toList 0 ops.toList []).length) hok hF (fun F' hq => by
        obtain ⟨E', s', hE, h2, h3, h4, h5⟩ := hq
        rw [← hE]
        exact vcTT_sound (Q := Q1) ht hl' _ _ (fcOT_self h4) h2 h3 h5)
      have hid : (Code.region id ops.toList.toArray true) = .region id ops true := by simp
      rw [hid] at hT
      refine ⟨fun a w hf hs => wp_mono (hT.run a w hf hs) fun x a' w' ⟨F', H', L', f1, s1, E', s', hE, hle, hrs, hq, hag⟩ => ?_⟩
      cases x with
      | normal =>
        have hq : joinA s.nx N ss J s' := hq
        unfold joinA at hq
        have hq := fcH_self (fcL_self (fcN_self hq))
        generalize hjs2 : canon s.nx (vals s'.F ss) s'.h = js2 at hq
        obtain ⟨hNle, hJ⟩ := hq
        obtain ⟨t2, ht2⟩ : ∃ t, js2 = rng 0 s.nx ++ t := by rw [← hjs2, canon_X]; exact canonX_pre _ _ _
        obtain ⟨M1, M2, q1, q2, q3, q4⟩ := pick_spec js2 hrs.h
        have hup : (E'.sel js2).le { E'.sel js2 with nx := N } := ⟨Hp.le.refl _, Nat.le_of_ble_eq_true hNle, fun _ _ => rfl, fun _ _ => rfl⟩
        have hE2 : E.le { E'.sel js2 with nx := N } := (sel_base hr.nx hle ⟨t2, ht2⟩).trans hup
        refine ⟨F', E'.H, M1, f1, (hE ▸ s1.perm q3).sub (List.sublist_append_left ..), { E'.sel js2 with nx := N }, _, rfl, h0.trans hE2, ⟨fun t => updS_V t ?_ ((VL_tr (renT_ok (sel_ok E' js2)) _ _ (vals_V hrs ss)).mono hup), VH_mono hup (VH_ren (sel_ok E' js2) (fun p hp => idx_mem (q4 p hp)) q1), rfl⟩, hQ _ _ hJ, fun t htw => ?_⟩
        · have hM : tb (wrMO ops.toList 0) t = wrO ops.toList t := by rw [wrMO_tb, tb_zero, Bool.false_or]
          simp only [forgF, hM]
          cases hw : wrO ops.toList t with
          | true => simp only [V]
          | false => rw [hag t hw]; exact (hr.f t).mono hE2
        · have hw : wrO ops.toList t = false := by
            cases hw : wrO ops.toList t with
            | false => rfl
            | true => have := hW t (by rw [wrB]; exact hw); rw [htw] at this; cases this
          rw [hag t hw, ha t htw]
      | _ => exact hq.elim
  | .seq a b, base, Q, E0, E, s, F, F0, L, W, hn, hW, h, hb, h0, hr, ha => by
    rw [vcC] at h
    simp only [wrOk, Bool.and_eq_true] at hn
    have hWa : ∀ t, wrB a t = true → W t = true := fun t h' => hW t (by rw [wrB, h']; rfl)
    have hWb : ∀ t, wrB b t = true → W t = true := fun t h' => hW t (by rw [wrB, h']; cases wrB a t <;> rfl)
    refine t_seq (t_mono ?_ (vcC_sound ht a base _ hn.1 hWa h hb h0 hr ha))
    rintro x F' H' L' ⟨E', s', rfl, h2, h3, h4, h5⟩
    cases x with
    | normal => exact vcC_sound ht b base Q hn.2 hWb h4 hb h2 h3 h5
    | exit id => exact ⟨E', s', rfl, h2, h3, h4, h5⟩
    | goto l => exact ⟨E', s', rfl, h2, h3, h4, h5⟩
    | ret => exact ⟨E', s', rfl, h2, h3, h4, h5⟩
    | panic ch => exact ⟨E', s', rfl, h2, h3, h4, h5⟩
    | outgrown => exact ⟨E', s', rfl, h2, h3, h4, h5⟩
  | .cond c a b, base, Q, E0, E, s, F, F0, L, W, hn, hW, h, hb, h0, hr, ha => by
    rw [vcC] at h
    simp only [wrOk, Bool.and_eq_true] at hn
    have hWa : ∀ t, wrB a t = true → W t = true := fun t h' => hW t (by rw [wrB, h']; rfl)
    have hWb : ∀ t, wrB b t = true → W t = true := fun t h' => hW t (by rw [wrB, h']; cases wrB a t <;> rfl)
    have hc := hr.ev c
    split at h
    · rename_i t hct
      rw [hct] at hc
      exact t_cond (V_bool hc) (fun h' => vcC_sound ht a base Q hn.1 hWa (by subst h'; exact h) hb h0 hr ha) (fun h' => vcC_sound ht b base Q hn.2 hWb (by subst h'; exact h) hb h0 hr ha)
    · cases h
  | .block id c, base, Q, E0, E, s, F, F0, L, W, hn, hW, h, hb, h0, hr, ha => by
    rw [vcC] at h
    refine t_block (t_mono ?_ (vcC_sound ht c base _ (by simpa only [wrOk] using hn) (fun t h' => hW t (by rw [wrB]; exact h')) h hb h0 hr ha))
    rintro x F' H' L' ⟨E', s', rfl, h2, h3, h4, h5⟩
    cases x with
    | normal => exact ⟨E', s', rfl, h2, h3, h4, h5⟩
    | exit id' =>
      simp only [blockQ]
      simp only at h4
      cases hbq : Nat.beq id' id with
      | true => rw [hbq] at h4; rw [if_pos (Nat.eq_of_beq_eq_true hbq)]; exact ⟨E', s', rfl, h2, h3, h4, h5⟩
      | false =>
        rw [hbq] at h4
        rw [if_neg (fun e' => by rw [e', Nat.beq_refl] at hbq; cases hbq)]
        exact ⟨E', s', rfl, h2, h3, h4, h5⟩
    | goto l => exact ⟨E', s', rfl, h2, h3, h4, h5⟩
    | ret => exact ⟨E', s', rfl, h2, h3, h4, h5⟩
    | panic ch => exact ⟨E', s', rfl, h2, h3, h4, h5⟩
    | outgrown => exact ⟨E', s', rfl, h2, h3, h4, h5⟩
  | .loop c, base, Q, E0, E, s, F, F0, L, W, hn, hW, h, hb, h0, hr, ha => by
    rw [vcC] at h
    obtain ⟨nl, ks, ss, I, k0, hx⟩ := h.ex
    refine ⟨fun a w hf hs => ?_⟩
    obtain ⟨En, sn, Ln, hn2, hrn, hx, hn5⟩ := nilS_spec nl hx hr hs
    have h0 := h0.trans hn2
    have hr := hrn
    clear hn2 hrn hs
    generalize hEE : En = E at *
    generalize hss : sn = s at *
    generalize hLL : Ln = L at *
    clear hEE hss hLL
    have hx := fcN_self hx
    have hx := fcN_self hx
    have hx := fcI_self hx
    have hx := fcI_self hx
    obtain ⟨Fh, hx, hFh⟩ := pushF_spec n hx
    have hx := fcL_self hx
    have hx := fcH_self hx
    obtain ⟨hI, hround⟩ := hx
    generalize hjs0 : canonK base ks (vals s.F ks) s.h = js0 at hI hround hFh
    generalize hjs : canonX js0 (vals s.F ss) s.h = js at hI hround
    have hn' : wrOk n c = true := by simpa only [wrOk] using hn
    have hWc : ∀ t, wrB c t = true → W t = true := fun t h' => hW t (by rw [wrB]; exact h')
    obtain ⟨t0, ht0⟩ : ∃ t, js0 = rng 0 base ++ t := by rw [← hjs0]; exact canonK_pre _ _ _ _
    obtain ⟨t1, ht1⟩ : ∃ t, js = js0 ++ t := by rw [← hjs]; exact canonX_pre _ _ _
    have hEb0 : E0.le (E.sel js0) := sel_base hb h0 ⟨t0, ht0⟩
    have hEbj : (E.sel js0).le (E.sel js) := by rw [ht1]; exact sel_pre
    have hun : ∀ t, V (E.sel js0) (tr (renT (idx js0)) (s.F t)) (F t) := fun t => V_tr (renT_ok (sel_ok E js0)) _ _ (hr.f t)
    obtain ⟨L1, L2, hp1, hp2, hp3, hp4⟩ := pick_spec js hr.h
    refine (t_loopW (wrB c) (fun k F1 H1 L1 => ∃ E1 vs h, E1.H = H1 ∧ (E.sel js0).le E1 ∧ E1.nx = js.length ∧ VL E1 vs (ss.map F1) ∧ VH E1 h L1 ∧ I k vs h) k0 L1
      (fun w hs => (hs.perm hp3).sub (List.sublist_append_left ..)) ⟨E.sel js, _, _, rfl, hEbj, rfl, VL_tr (renT_ok (sel_ok E js)) _ _ (vals_V hr ss), VH_ren (sel_ok E js) (fun p hp => idx_mem (hp4 p hp)) hp1, hI⟩ ?_).run a w hf hn5
    rintro k F1 H1 L1' hag1 ⟨E1, vs, h, rfl, hE1, hnx, hvs, hh, hIk⟩
    have hrs : RS E1 ⟨updS ss vs Fh, h, js.length⟩ F1 L1' := by
      refine ⟨fun t => updS_V t ?_ hvs, hh, hnx⟩
      have hM : tb (wrM c 0) t = wrB c t := by rw [wrM_tb, tb_zero, Bool.false_or]
      have hhead : V E1 (headF js0 (wrM c 0) s.F t) (F1 t) := by
        simp only [headF, hM]
        cases hw : wrB c t with
        | true => simp only [V]
        | false => rw [hag1 t hw]; exact (hun t).mono hE1
      rcases hFh t with h1 | ⟨_, h1⟩ <;> (rw [h1]; exact hhead)
    have hbody := vcC_sound ht c js0.length _ (W := wrB c) (F0 := F1) hn' (fun t h' => h') (hround k vs h hIk) rfl hE1 hrs (Agr.refl _ _)
    refine t_mono ?_ hbody
    rintro x F2 H2 L2' ⟨E2, s2, rfl, g2, g3, g4, g5⟩
    have out : ∀ x', Q x' s2 → lq E0 W F0 Q x' F2 E2.H L2' := fun x' hq => ⟨E2, s2, rfl, hEb0.trans g2, g3, hq, fun t htw => by
      have h1 : wrB c t = false := by cases hw : wrB c t with | false => rfl | true => rw [hWc t hw] at htw; cases htw
      rw [g5 t h1, hag1 t h1, ha t htw]⟩
    cases x with
    | normal =>
      simp only at g4
      have g4 := fcN_self g4
      have g4 := fcL_self g4
      have g4 := fcH_self g4
      generalize hjs2 : canon js0.length (vals s2.F ss) s2.h = js2 at g4
      obtain ⟨hle, k', hk', hh, hflat, hI'⟩ := VRd_any (I := fun k' hx => I k' _ hx) g4
      refine ⟨fun t htw => by rw [g5 t htw, hag1 t htw], k', hk', ?_⟩
      obtain ⟨t2, ht2⟩ : ∃ t, js2 = rng 0 js0.length ++ t := by rw [← hjs2, canon_X]; exact canonX_pre _ _ _
      obtain ⟨M1, M2, q1, q2, q3, q4⟩ := pick_spec js2 g3.h
      have hup : (E2.sel js2).le { E2.sel js2 with nx := js.length } := ⟨Hp.le.refl _, Nat.le_of_ble_eq_true hle, fun _ _ => rfl, fun _ _ => rfl⟩
      refine ⟨M1, fun w hs => (hs.perm q3).sub (List.sublist_append_left ..), { E2.sel js2 with nx := js.length }, _, _, rfl, ?_, rfl, (VL_tr (renT_ok (sel_ok E2 js2)) _ _ (vals_V g3 ss)).mono hup, hflat (VH_mono hup (VH_ren (sel_ok E2 js2) (fun p hp => idx_mem (q4 p hp)) q1)), hI'⟩
      exact (sel_base rfl g2 ⟨t2, ht2⟩).trans hup
    | exit id => exact out _ g4
    | goto l => exact out _ g4
    | ret => exact out _ g4
    | panic ch => exact out _ g4
    | outgrown => exact out _ g4
  | .rangeFunc f ps al b, base, Q, E0, E, s, F, F0, L, W, hn, hW, h, hb, h0, hr, ha => by simp [vcC] at h
  | .scope c, base, Q, E0, E, s, F, F0, L, W, hn, hW, h, hb, h0, hr, ha => by simp [vcC] at h
  | .label l, base, Q, E0, E, s, F, F0, L, W, hn, hW, h, hb, h0, hr, ha => by simp [vcC] at h
  | .goto l, base, Q, E0, E, s, F, F0, L, W, hn, hW, h, hb, h0, hr, ha => by simp [vcC] at h
  | .refuse l, base, Q, E0, E, s, F, F0, L, W, hn, hW, h, hb, h0, hr, ha => by simp [vcC] at h

/-! functions -/
def argA : List AV → Nat → AV
  | [], _ => .undef
  | v :: _, 0 => v
  | _ :: r, t + 1 => argA r t
theorem argA_V {E : Env} : ∀ {al : List AV} {us : List Value}, VL E al us → ∀ t, V E (argA al t) (argF us t)
  | [], us, h, t => by simp only [VL] at h; subst h; simp only [argA, argF, V]
  | a :: al, us, h, 0 => by simp only [VL] at h; obtain ⟨u, us', rfl, h1, _⟩ := h; exact h1
  | a :: al, us, h, t + 1 => by simp only [VL] at h; obtain ⟨u, us', rfl, _, h2⟩ := h; exact argA_V h2 t
def resA1 (ty : Nat → TyI) (s : AS) : ResultVar → Option AV
  | .tmp t => some (s.F t)
  | .cell t T => match s.F t with
    | .fp cs off => ldA (ty T) cs off
    | .op id off => match pos id s.h with
      | some (_, .blk _ cs _) => ldA (ty T) cs off
      | _ => none
    | _ => none
def resA (ty : Nat → TyI) (s : AS) (rs : Array ResultVar) : Option AV :=
  match rs.toList with
  | [] => some (.tup [])
  | [r] => resA1 ty s r
  | [r, r'] => match resA1 ty s r, resA1 ty s r' with
    | some a, some b => some (.tup [a, b])
    | _, _ => none
  | [r, r', r''] => match resA1 ty s r, resA1 ty s r', resA1 ty s r'' with
    | some a, some b, some c => some (.tup [a, b, c])
    | _, _, _ => none
  | _ => none
theorem resA1_spec (ht : ∀ T, TyOk P T (ty T)) {E : Env} {s : AS} {F : Slots} {L : List Piece} (hr : RS E s F L) : ∀ {r : ResultVar} {a : AV}, resA1 ty s r = some a → ∃ v, RV P E.H L F r v ∧ V E a v
  | .tmp t, a, h => by
    simp only [resA1, Option.some.injEq] at h
    subst h
    exact ⟨F t, .tmp rfl, hr.f t⟩
  | .cell t T, a, h => by
    rw [resA1] at h
    have hx := hr.f t
    split at h
    · rename_i cs off hb
      rw [hb] at hx
      simp only [V] at hx
      obtain ⟨A, us, hx, h1, h2⟩ := hx
      obtain ⟨u, h3, h4⟩ := ldA_spec (ht T) h2 h
      exact ⟨u, .cell hx (h4 (Src.frz h1)), h3.mono (Env.le.of (Hp.le.refl _))⟩
    · rename_i id off hb
      rw [hb] at hx
      split at h
      · rename_i i id' cs T' hp
        simp only [V] at hx
        obtain ⟨hid, hi, q, hq, hvp⟩ := pos_spec hr.h hp
        simp only [AP.id] at hid
        subst hid
        simp only [VP] at hvp
        obtain ⟨_, us, rfl, hus⟩ := hvp
        obtain ⟨u, h3, h4⟩ := ldA_spec (ht T) hus h
        exact ⟨u, .cell hx.2 (h4 (Src.blk i _ _ hq rfl)), h3⟩
      · cases h
    · cases h
theorem resA_spec (ht : ∀ T, TyOk P T (ty T)) {E : Env} {s : AS} {F : Slots} {L : List Piece} (hr : RS E s F L) {rs : Array ResultVar} {a : AV} (h : resA ty s rs = some a) : ∃ v, Res P E.H L F rs v ∧ V E a v := by
  unfold resA at h
  split at h
  · rename_i e1
    have e1 := toL e1
    subst e1
    cases h
    exact ⟨.tuple #[], .r0, by simp only [V, VL]; exact ⟨[], rfl, rfl⟩⟩
  · rename_i r e1
    have e1 := toL e1
    subst e1
    obtain ⟨v, h1, h2⟩ := resA1_spec ht hr h
    exact ⟨v, .r1 h1, h2⟩
  · rename_i r r' e1
    have e1 := toL e1
    subst e1
    split at h
    · rename_i a b ea eb
      cases h
      obtain ⟨v, h1, h2⟩ := resA1_spec ht hr ea
      obtain ⟨v', h3, h4⟩ := resA1_spec ht hr eb
      exact ⟨.tuple #[v, v'], .r2 h1 h3, by simp only [V, VL]; exact ⟨[v, v'], rfl, v, [v'], rfl, h2, v', [], rfl, h4, rfl⟩⟩
    · cases h
  · rename_i r r' r'' e1
    have e1 := toL e1
    subst e1
    split at h
    · rename_i a b c ea eb ec
      cases h
      obtain ⟨v, h1, h2⟩ := resA1_spec ht hr ea
      obtain ⟨v', h3, h4⟩ := resA1_spec ht hr eb
      obtain ⟨v'', h5, h6⟩ := resA1_spec ht hr ec
      exact ⟨.tuple #[v, v', v''], .r3 h1 h3 h5, by simp only [V, VL]; exact ⟨[v, v', v''], rfl, v, [v', v''], rfl, h2, v', [v''], rfl, h4, v'', [], rfl, h6, rfl⟩⟩
    · cases h
  · cases h
def fcA (v : AV) (k : AV → Prop) : Prop :=
  match v with
  | .agg cs => fcL cs fun cs => k (.agg cs)
  | v => fc v k
theorem fcA_self {v : AV} {k : AV → Prop} (h : fcA v k) : k v := by
  cases v
  case agg cs => exact fcL_self (k := fun cs => k (.agg cs)) h
  all_goals exact fc_self h
def fcLA : List AV → (List AV → Prop) → Prop
  | [], k => k []
  | v :: l, k => fcA v fun v => fcLA l fun l => k (v :: l)
theorem fcLA_self : ∀ {l : List AV} {k : List AV → Prop}, fcLA l k → k l
  | [], _, h => h
  | v :: l, k, h => by rw [fcLA] at h; exact fcLA_self (k := fun l => k (v :: l)) (fcA_self h)
def fcR (v : AV) (k : AV → Prop) : Prop :=
  match v with
  | .tup cs => fcLA cs fun cs => k (.tup cs)
  | .agg cs => fcL cs fun cs => k (.agg cs)
  | v => fc v k
theorem fcR_self {v : AV} {k : AV → Prop} (h : fcR v k) : k v := by
  cases v
  case tup cs => exact fcLA_self (k := fun cs => k (.tup cs)) h
  case agg cs => exact fcL_self (k := fun cs => k (.agg cs)) h
  all_goals exact fc_self h
/-- what a frozen answer must be at the end -/
def retP (ty : Nat → TyI) (fn : Func) (R : AV → Prop) : APost
  | .normal, s | .ret, s => (match resA ty s fn.results with | some r => fcR (tr (fz1 s.h) r) R | none => False)
  | _, _ => False
structure VRt (b : Bool) (R : Prop) : Prop where
  le : b = true
  R : R
def retO (ty : Nat → TyI) (fn : Func) (base : Nat) (R : AV → List AP → Prop) : APost
  | .normal, s | .ret, s => (match resA ty s fn.results with
    | some r => fcR (tr (renT (idx (canon base [r] s.h))) r) fun r' => fcH ((pickA (canon base [r] s.h) s.h).map (renP (idx (canon base [r] s.h)))) fun h' =>
        VRt (Nat.ble (canon base [r] s.h).length (topN h' base)) (R r' h')
    | none => False)
  | _, _ => False
theorem getE {α : Type} {f : α → List AV} {l : List α} {j : Nat} (h : j < l.length) : (l.map f)[j]? = some (f l[j]) := by rw [List.getElem?_map, List.getElem?_eq_getElem h]; rfl
theorem len_map {α : Type} {f : α → List AV} {l : List α} {kk : Nat} (h : ∀ x, (f x).length = kk) : LenOk kk (l.map f) := fun r hr => by
  obtain ⟨x, _, rfl⟩ := List.mem_map.1 hr
  exact h x
theorem len_lit {kk : Nat} {rows : List (List AV)} (h : lenAll kk rows = true) : LenOk kk rows := fun r hr => by
  induction rows with
  | nil => cases hr
  | cons a l ih =>
    simp only [lenAll, Bool.and_eq_true] at h
    rcases List.mem_cons.1 hr with rfl | hr
    · exact Nat.eq_of_beq_eq_true h.1
    · exact ih h.2 hr
theorem VSl.of {lo hi : Option Int} {n kk : Nat} {rows : List (List AV)} {k : AV → Prop} {l h : Nat} (h1 : lo.getD 0 = (l : Int)) (h2 : hi.getD n = (h : Int)) (h3 : l ≤ h) (h4 : h ≤ n) (h5 : LenOk kk rows) (hk : k (.lst (h - l) ((rows.take h).drop l))) : VSl lo hi n kk rows k := ⟨l, h, _, _, h1, h2, h3, h4, h5, rfl, rfl, hk⟩
/-- a part of a list -/
theorem VSl.map {α : Type} {f : α → List AV} {xs : List α} {lo hi : Option Int} {kk : Nat} {k : AV → Prop} {l h : Nat} (h1 : lo.getD 0 = (l : Int)) (h2 : hi.getD xs.length = (h : Int)) (h3 : l ≤ h) (h4 : h ≤ xs.length) (h5 : ∀ x, (f x).length = kk) (hk : k (.lst ((xs.take h).drop l).length (((xs.take h).drop l).map f))) : VSl lo hi xs.length kk (xs.map f) k :=
  ⟨l, h, _, _, h1, h2, h3, h4, len_map h5, by simp; omega, by rw [List.map_drop, List.map_take], hk⟩
theorem rok_map {α : Type} {f : α → List AV} {l : List α} {kk : Nat} (h : ∀ x, (f x).length = kk ∧ (f x).all oneA = true) : RowsOk kk (l.map f) := fun r hr => by
  obtain ⟨x, _, rfl⟩ := List.mem_map.1 hr
  exact h x
def rokB (kk : Nat) : List (List AV) → Bool
  | [] => true
  | r :: rows => Nat.beq r.length kk && r.all oneA && rokB kk rows
theorem rok_lit {kk : Nat} : ∀ {rows : List (List AV)}, rokB kk rows = true → RowsOk kk rows
  | [], _, r, hr => by cases hr
  | r0 :: rows, h, r, hr => by
    simp only [rokB, Bool.and_eq_true] at h
    rcases List.mem_cons.1 hr with rfl | hr
    · exact ⟨Nat.eq_of_beq_eq_true h.1.1, h.1.2⟩
    · exact rok_lit h.2 r hr
theorem fn_intro2 {f : FuncId} {fn : Func} {c : Code} {vs : List Value} {H : Hp} {I : List Piece} {R : Value → Hp → List Piece → Prop} (hcall : ∀ (args : Array Value) w, (callFunc f args).run P w = .ok (.enter f args) w)
    (hf : P.funcs[f]? = some fn) (hb : fn.body = some c) (hn : vs.length ≤ fn.ntmps)
    (h : ∀ w, ∃ Q : Post, Tri P ⟨w, H, ownB I⟩ fn.ntmps c (argF vs) H I Q ∧ ∀ x F' H' L' w', Sees ⟨w, H, ownB I⟩ H' L' w' → Q x F' H' L' → (x = .normal ∨ x = .ret) ∧ ∃ v H'' O, Res P H' L' F' fn.results v ∧ Sees ⟨w, H, ownB I⟩ H'' O w' ∧ R v H'' O) : Fn P f vs.toArray H I R :=
  ⟨hcall, fun w hs => by
    refine calls_of_wp hf hb ?_
    obtain ⟨Q, ht, hq⟩ := h w
    have hfr : Fr { tmps := vs.toArray ++ Array.replicate (fn.ntmps - vs.toArray.size) undef, defers := [] } (argF vs) fn.ntmps := by
      refine ⟨rfl, ?_, fun t => ?_⟩
      · simp only [Array.size_append, Array.size_replicate, List.size_toArray]
        omega
      · rw [← argF_eq]
        simp only [Array.getD_eq_getD_getElem?, Array.getElem?_append, Array.getElem?_replicate]
        split
        · rfl
        · rename_i hlt
          rw [Array.getElem?_eq_none (by omega)]
          split <;> rfl
    refine wp_mono (ht.run _ w hfr hs) ?_
    rintro x a' w' ⟨F', H', L', h1, h2, h3⟩
    obtain ⟨hx, v, H'', O, hr, hse, hR⟩ := hq x F' H' L' w' h2 h3
    have key : a'.defers = [] ∧ ∃ v, (results fn a'.tmps).run P w' = .ok v w' ∧ ∃ v' H'' O, Ending.returned v = .returned v' ∧ Sees ⟨w, H, ownB I⟩ H'' O w' ∧ R v' H'' O :=
      ⟨h1.defers, _, run_results h1 h2 hr, _, _, _, rfl, hse, hR⟩
    rcases hx with rfl | rfl
    · exact key
    · exact key⟩
/-- a function's contract, frozen answer -/
theorem afnr_in (ht : ∀ T, TyOk P T (ty T)) {f : FuncId} {fn : Func} {c : Code} {args : List AV} {R : AV → Prop} (hcall : ∀ (args : Array Value) w, (callFunc f args).run P w = .ok (.enter f args) w)
    (hf : P.funcs[f]? = some fn) (hb : fn.body = some c) (hn : Nat.ble args.length fn.ntmps = true) (hw : wrOk fn.ntmps c = true) (h : vcC P ty fn.ntmps c 0 (retP ty fn R) ⟨argA args, [], 0⟩) : AFnR P f args R := by
  intro H vs hvs
  refine fn_intro2 hcall hf hb (by rw [VL_len hvs]; exact Nat.le_of_ble_eq_true hn) fun w => ?_
  have hrs : RS (Env.fz H) ⟨argA args, [], 0⟩ (argF vs) [] := ⟨argA_V hvs, by simp only [VH], rfl⟩
  refine ⟨_, vcC_sound (e := ⟨w, H, ownB []⟩) ht c 0 _ (W := fun _ => true) (F0 := argF vs) hw (fun _ _ => rfl) h rfl (Env.le.refl _) hrs (Agr.refl _ _), ?_⟩
  rintro x F' H' L' w' hse ⟨E', s', rfl, h2, h3, h4, _⟩
  have main : ∀ x', retP ty fn R x' s' → (x' = .normal ∨ x' = .ret) → ∃ v H'' O, Res P E'.H L' F' fn.results v ∧ Sees ⟨w, H, ownB []⟩ H'' O w' ∧ ∃ r, R r ∧ VF H'' r v := by
    intro x' hx' hxx
    have hm : ∃ r', resA ty s' fn.results = some r' ∧ R (tr (fz1 s'.h) r') := by
      cases hr' : resA ty s' fn.results with
      | none => rcases hxx with rfl | rfl <;> (simp only [retP, hr'] at hx')
      | some r' => rcases hxx with rfl | rfl <;> (simp only [retP, hr'] at hx'; exact ⟨r', rfl, fcR_self (k := R) hx'⟩)
    obtain ⟨r', hr', he⟩ := hm
    obtain ⟨v, h5, h6⟩ := resA_spec ht h3 hr'
    obtain ⟨H'', h7, h8, h9⟩ := freezeAll L' (L2 := []) (by simpa using hse)
    exact ⟨v, H'', [], h5, h8, _, he, V_tr (fz1_ok ⟨h7, h3.h, fun p hp => ⟨w', hse.holds p hp, h9 p hp⟩⟩) _ _ h6⟩
  cases x with
  | normal => exact ⟨.inl rfl, main .normal h4 (.inl rfl)⟩
  | ret => exact ⟨.inr rfl, main .ret h4 (.inr rfl)⟩
  | exit id => exact h4.elim
  | goto l => exact h4.elim
  | panic ch => exact h4.elim
  | outgrown => exact h4.elim
theorem afnp_in (ht : ∀ T, TyOk P T (ty T)) {f : FuncId} {fn : Func} {c : Code} {args : List AV} {r : AV} (hcall : ∀ (args : Array Value) w, (callFunc f args).run P w = .ok (.enter f args) w)
    (hf : P.funcs[f]? = some fn) (hb : fn.body = some c) (hn : Nat.ble args.length fn.ntmps = true) (hw : wrOk fn.ntmps c = true) (h : vcC P ty fn.ntmps c 0 (retP ty fn (fun r' => r' = r)) ⟨argA args, [], 0⟩) : AFnP P f args r := (afnr_in ht hcall hf hb hn hw h).toP
/-- a function's contract, owned pieces in and out -/
theorem afn_in (ht : ∀ T, TyOk P T (ty T)) {f : FuncId} {fn : Func} {c : Code} {args : List AV} {h : List AP} {R : AV → List AP → Prop} (hcall : ∀ (args : Array Value) w, (callFunc f args).run P w = .ok (.enter f args) w)
    (hf : P.funcs[f]? = some fn) (hb : fn.body = some c) (hn : Nat.ble args.length fn.ntmps = true) (hw : wrOk fn.ntmps c = true) (hvc : vcC P ty fn.ntmps c h.length (retO ty fn h.length R) ⟨argA args, h, h.length⟩) : AFn P f args h R := by
  intro E vs L hnx hvs hh
  refine fn_intro2 hcall hf hb (by rw [VL_len hvs]; exact Nat.le_of_ble_eq_true hn) fun w => ?_
  have hrs : RS E ⟨argA args, h, h.length⟩ (argF vs) L := ⟨argA_V hvs, hh, hnx⟩
  refine ⟨_, vcC_sound (e := ⟨w, E.H, ownB L⟩) ht c h.length _ (W := fun _ => true) (F0 := argF vs) hw (fun _ _ => rfl) hvc hnx (Env.le.refl _) hrs (Agr.refl _ _), ?_⟩
  rintro x F' H' L' w' hse ⟨E', s', rfl, h2, h3, h4, _⟩
  have main : ∀ x', retO ty fn h.length R x' s' → (x' = .normal ∨ x' = .ret) → ∃ v H'' O, Res P E'.H L' F' fn.results v ∧ Sees ⟨w, E.H, ownB L⟩ H'' O w' ∧ ∃ E2 r h', E2.H = H'' ∧ E.le E2 ∧ V E2 r v ∧ VH E2 h' O ∧ E2.nx = topN h' h.length ∧ R r h' := by
    intro x' hx' hxx
    have hm : ∃ r', resA ty s' fn.results = some r' ∧ R (tr (renT (idx (canon h.length [r'] s'.h))) r') ((pickA (canon h.length [r'] s'.h) s'.h).map (renP (idx (canon h.length [r'] s'.h)))) ∧
        Nat.ble (canon h.length [r'] s'.h).length (topN ((pickA (canon h.length [r'] s'.h) s'.h).map (renP (idx (canon h.length [r'] s'.h)))) h.length) = true := by
      cases hr' : resA ty s' fn.results with
      | none => rcases hxx with rfl | rfl <;> (simp only [retO, hr'] at hx')
      | some r' =>
        have hx2 : VRt (Nat.ble (canon h.length [r'] s'.h).length (topN ((pickA (canon h.length [r'] s'.h) s'.h).map (renP (idx (canon h.length [r'] s'.h)))) h.length)) (R (tr (renT (idx (canon h.length [r'] s'.h))) r') ((pickA (canon h.length [r'] s'.h) s'.h).map (renP (idx (canon h.length [r'] s'.h))))) := by
          rcases hxx with rfl | rfl <;> (simp only [retO, hr'] at hx'; exact fcH_self (k := fun h' => VRt (Nat.ble (canon h.length [r'] s'.h).length (topN h' h.length)) (R _ h')) (fcR_self (k := fun r2 => fcH _ fun h' => VRt _ (R r2 h')) hx'))
        exact ⟨r', rfl, hx2.R, hx2.le⟩
    obtain ⟨r', hr', hR, hle⟩ := hm
    obtain ⟨v, h5, h6⟩ := resA_spec ht h3 hr'
    generalize hjs : canon h.length [r'] s'.h = js at hR hle
    obtain ⟨t, hjt⟩ : ∃ t, js = rng 0 h.length ++ t := by rw [← hjs, canon_X]; exact canonX_pre _ _ _
    obtain ⟨M1, M2, q1, q2, q3, q4⟩ := pick_spec js h3.h
    have hup : (E'.sel js).le { E'.sel js with nx := topN ((pickA js s'.h).map (renP (idx js))) h.length } := ⟨Hp.le.refl _, Nat.le_of_ble_eq_true hle, fun _ _ => rfl, fun _ _ => rfl⟩
    exact ⟨v, E'.H, M1, h5, (hse.perm q3).sub (List.sublist_append_left ..), { E'.sel js with nx := topN ((pickA js s'.h).map (renP (idx js))) h.length }, _, _, rfl, (sel_base hnx h2 ⟨t, hjt⟩).trans hup,
      (V_tr (renT_ok (sel_ok E' js)) _ _ h6).mono hup, VH_mono hup (VH_ren (sel_ok E' js) (fun p hp => idx_mem (q4 p hp)) q1), rfl, hR⟩
  cases x with
  | normal => exact ⟨.inl rfl, main .normal h4 (.inl rfl)⟩
  | ret => exact ⟨.inr rfl, main .ret h4 (.inr rfl)⟩
  | exit id => exact h4.elim
  | goto l => exact h4.elim
  | panic ch => exact h4.elim
  | outgrown => exact h4.elim
end sound
end Go.Proofs.YtlghgdgpbnlpmaaGreat
