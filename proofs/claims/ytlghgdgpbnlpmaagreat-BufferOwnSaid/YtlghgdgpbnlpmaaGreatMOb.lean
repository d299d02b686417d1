/- What is proved: a tree that lies in an arena, and what it reads as. Conditions: none. -/
import Derived.Test.YtlghgdgpbnlpmaaGreatMOa
import Derived.Test.YtlghgdgpbnlpmaaGreatMTb
import Derived.Test.YtlghgdgpbnlpmaaGreatMQ
namespace Go.Proofs.YtlghgdgpbnlpmaaGreat
open Go.RowKit
set_option linter.unusedVariables false
abbrev Sl3 := Option Addr × Nat × Nat
def sl3 (x : Sl3) : Value := .slice x.1 x.2.1 x.2.2
abbrev sv3 (x : Sl3) : AV := .sval x.1 x.2.1 x.2.2
abbrev Kd3 := ByteArray × Sl3 × Sl3
def kdE (x : Kd3) : List AV := [.str x.1, sv3 x.2.1, sv3 x.2.2]
def kdV (x : Kd3) : List Value := [.string x.1, sl3 x.2.1, sl3 x.2.2]
def entV (e : Ent8) : List Value := [.int .i64 e.1.1, .int .i64 e.1.2, .string e.2.1, .int .i64 e.2.2]
structure EntD (es : List Ent8) (ev : Sl3) (D : RowD) : Prop where
  v : D.v = sl3 ev
  E : D.E = 126
  k : D.k = 4
  rows : D.rows = es.map entV
structure KidD (xs : List Kd3) (kv : Sl3) (D : RowD) : Prop where
  v : D.v = sl3 kv
  E : D.E = 122
  k : D.k = 3
  rows : D.rows = xs.map kdV
mutual
/-- a tree lies in these rows -/
def OwnT : Tr8 → Sl3 → Sl3 → List RowD → Prop
  | .mk es ks, ev, kv, rs => ∃ D1 D2 xs Q, rs = D1 :: D2 :: Q ∧ EntD es ev D1 ∧ KidD xs kv D2 ∧ OwnK ks xs Q
def OwnK : List (ByteArray × Tr8) → List Kd3 → List RowD → Prop
  | [], xs, Q => xs = [] ∧ Q = []
  | x :: ks, xs, Q => ∃ e k xs' Q1 Q2, xs = (x.1, e, k) :: xs' ∧ Q = Q1 ++ Q2 ∧ OwnX x e k Q1 ∧ OwnK ks xs' Q2
def OwnX : ByteArray × Tr8 → Sl3 → Sl3 → List RowD → Prop
  | (_, t), e, k, Q => OwnT t e k Q
end
theorem OwnX_eq (x : ByteArray × Tr8) (e k : Sl3) (Q : List RowD) : OwnX x e k Q = OwnT x.2 e k Q := by
  obtain ⟨k, t⟩ := x
  rw [OwnX]
theorem OwnT_iff (t : Tr8) (ev kv : Sl3) (rs : List RowD) : OwnT t ev kv rs ↔ ∃ D1 D2 xs Q, rs = D1 :: D2 :: Q ∧ EntD t.es ev D1 ∧ KidD xs kv D2 ∧ OwnK t.ks xs Q := by
  obtain ⟨es, ks⟩ := t
  rw [OwnT]
  rfl
theorem OwnK_cons (x : ByteArray × Tr8) (ks : List (ByteArray × Tr8)) (xs : List Kd3) (Q : List RowD) : OwnK (x :: ks) xs Q ↔ ∃ e k xs' Q1 Q2, xs = (x.1, e, k) :: xs' ∧ Q = Q1 ++ Q2 ∧ OwnT x.2 e k Q1 ∧ OwnK ks xs' Q2 := by
  rw [OwnK]
  simp only [OwnX_eq]
theorem OwnK_snoc : ∀ {ks : List (ByteArray × Tr8)} {xs : List Kd3} {Q : List RowD} {x : ByteArray × Tr8} {e k : Sl3} {Q' : List RowD}, OwnK ks xs Q → OwnT x.2 e k Q' → OwnK (ks ++ [x]) (xs ++ [(x.1, e, k)]) (Q ++ Q')
  | [], xs, Q, x, e, k, Q', h, h' => by
    rw [OwnK] at h
    obtain ⟨rfl, rfl⟩ := h
    rw [List.nil_append, OwnK_cons]
    exact ⟨e, k, [], Q', [], rfl, by simp, h', by rw [OwnK]; exact ⟨rfl, rfl⟩⟩
  | y :: ks, xs, Q, x, e, k, Q', h, h' => by
    rw [OwnK_cons] at h
    obtain ⟨e0, k0, xs', Q1, Q2, rfl, rfl, h1, h2⟩ := h
    rw [List.cons_append, OwnK_cons]
    exact ⟨e0, k0, _, Q1, Q2 ++ Q', rfl, by rw [List.append_assoc], h1, OwnK_snoc h2 h'⟩
theorem deepK_memO : ∀ {ks : List (ByteArray × Tr8)} {x : ByteArray × Tr8}, x ∈ ks → deepT x.2 ≤ deepK ks
  | [], x, h => by cases h
  | y :: ks, x, h => by
    rw [deepK]
    rcases List.mem_cons.1 h with rfl | h
    · rw [deepX_eq]
      exact Nat.le_max_left _ _
    · exact Nat.le_trans (deepK_memO h) (Nat.le_max_right _ _)
theorem deepT_kid {t : Tr8} {x : ByteArray × Tr8} (h : x ∈ t.ks) : deepT x.2 + 1 ≤ deepT t := by
  rw [deepT_eq t]
  have := deepK_memO h
  omega
/-- rows in memory, read -/
theorem RowD.lst {D : RowD} {w : World} {H : Hp} (h : D.holds w) (hH : ∀ b, D.hasB b → H b = w.heap[b]?) {rows : List (List AV)} (hr : VLL (Env.fz H) rows D.rows) : V (Env.fz H) (.lst rows.length rows) D.v := by
  obtain ⟨v, E, k, rs⟩ := D
  obtain ⟨hown, hlen⟩ := h
  dsimp only at *
  have hl := VLL_len hr
  obtain ⟨a, c, rfl, h3, h4, _⟩ := own_form hown
  simp only [V]
  refine ⟨a, c, k, by rw [hl], trivial, by omega, h4, VR_mk fun j r hj => ?_⟩
  obtain ⟨us, hus, hvl⟩ := VLL_get hr hj
  have hk : us.length = k := hlen us (List.mem_of_getElem? hus)
  have hjl : j < rs.length := (List.getElem?_eq_some_iff.1 hus).1
  rcases hown.2 with ⟨_, h0⟩ | ⟨g, cap, cur, hgg, _⟩
  · omega
  · cases hgg
    refine ⟨_, us, rfl, by rw [← VL_len hvl, hk], ?_, hvl⟩
    rw [Nat.zero_add]
    refine At_cells (hH g rfl) fun x u hu => ?_
    exact hown.cells (g := g) rfl _ _ (flatten_at hlen hus hu)
theorem VLL_map {α : Type} {E : Env} {f : α → List AV} {g : α → List Value} : ∀ {l : List α}, (∀ x ∈ l, VL E (f x) (g x)) → VLL E (l.map f) (l.map g)
  | [], _ => by simp [VLL]
  | x :: l, h => by
    simp only [List.map_cons, VLL]
    exact ⟨_, _, rfl, h x (List.mem_cons_self ..), VLL_map fun y hy => h y (List.mem_cons_of_mem _ hy)⟩
theorem entV_VL (E : Env) (e : Ent8) : VL E (entE e) (entV e) := by
  simp only [entE, entV, i64, VL, V]
  exact ⟨_, _, rfl, rfl, _, _, rfl, rfl, _, _, rfl, rfl, _, _, rfl, rfl, rfl⟩
theorem OwnT_read {w : World} {H : Hp} : ∀ (n : Nat) {t : Tr8} {ev kv : Sl3} {rs : List RowD}, deepT t ≤ n → OwnT t ev kv rs → (∀ D ∈ rs, D.holds w) → (∀ D ∈ rs, ∀ b, D.hasB b → H b = w.heap[b]?) → VL (Env.fz H) [lstE entE t.es, lstE kidRow t.ks] [sl3 ev, sl3 kv]
  | 0, t, ev, kv, rs, hd, _, _, _ => by
    obtain ⟨es, ks⟩ := t
    rw [deepT] at hd
    omega
  | n + 1, t, ev, kv, rs, hd, h, hw, hH => by
    rw [OwnT_iff] at h
    obtain ⟨D1, D2, xs, Q, rfl, h1, h2, h3⟩ := h
    have a1 : V (Env.fz H) (lstE entE t.es) D1.v := by
      have := RowD.lst (H := H) (hw D1 (by simp)) (hH D1 (by simp)) (rows := t.es.map entE) (by rw [h1.rows]; exact VLL_map fun e _ => entV_VL _ e)
      rw [List.length_map] at this
      exact this
    have hk : ∀ (ks : List (ByteArray × Tr8)) (xs : List Kd3) (Q : List RowD), (∀ x ∈ ks, deepT x.2 ≤ n) → OwnK ks xs Q → (∀ D ∈ Q, D.holds w) → (∀ D ∈ Q, ∀ b, D.hasB b → H b = w.heap[b]?) → VLL (Env.fz H) (ks.map kidRow) (xs.map kdV) := fun ks => by
      induction ks with
      | nil =>
        intro xs Q _ h _ _
        rw [OwnK] at h
        obtain ⟨rfl, rfl⟩ := h
        simp [VLL]
      | cons x ks ih =>
        intro xs Q hdx h hw' hH'
        rw [OwnK_cons] at h
        obtain ⟨e, k, xs', Q1, Q2, rfl, rfl, g1, g2⟩ := h
        simp only [List.map_cons, VLL]
        refine ⟨_, _, rfl, ?_, ih xs' Q2 (fun y hy => hdx y (List.mem_cons_of_mem _ hy)) g2 (fun D hD => hw' D (List.mem_append_right _ hD)) (fun D hD => hH' D (List.mem_append_right _ hD))⟩
        have := OwnT_read n (hdx x (List.mem_cons_self ..)) g1 (fun D hD => hw' D (List.mem_append_left _ hD)) (fun D hD => hH' D (List.mem_append_left _ hD))
        rw [kidRow_eq]
        simp only [VL] at this ⊢
        refine ⟨_, _, rfl, ?_, this⟩
        simp only [V]
    have a2 : V (Env.fz H) (lstE kidRow t.ks) D2.v := by
      have := RowD.lst (H := H) (hw D2 (by simp)) (hH D2 (by simp)) (rows := t.ks.map kidRow) (by
        rw [h2.rows]
        exact hk t.ks xs Q (fun x hx => by have := deepT_kid hx; omega) h3 (fun D hD => hw D (by simp [hD])) (fun D hD => hH D (by simp [hD])))
      rw [List.length_map] at this
      exact this
    rw [← h1.v, ← h2.v]
    simp only [VL]
    exact ⟨_, _, rfl, a1, _, _, rfl, a2, rfl⟩
end Go.Proofs.YtlghgdgpbnlpmaaGreat
/- What is proved: tree.clone answers a tree that lies in the caller's arena. Conditions: none. -/
namespace Go.Proofs.YtlghgdgpbnlpmaaGreat
open Go.RowKit
set_option linter.unusedVariables false
set_option linter.unusedSimpArgs false
set_option maxRecDepth 100000
set_option maxHeartbeats 16000000
theorem VLL_flat {α : Type} {E : Env} {f : α → List AV} {g : α → List Value} (h : ∀ x, flatL (f x) = some (g x)) : ∀ {l : List α} {rs : List (List Value)}, VLL E (l.map f) rs → rs = l.map g
  | [], rs, hv => by simpa [VLL] using hv
  | x :: l, rs, hv => by
    simp only [List.map_cons, VLL] at hv
    obtain ⟨us, rs', rfl, h1, h2⟩ := hv
    rw [(flatL_spec E _ _ (h x)).2 us h1, VLL_flat h h2]
    rfl
/-- an answer that is the tree t, in the arena -/
def AnsT (t : Tr8) (Ps : List RowD) (r : AV) (h' : List AP) : Prop := ∃ a b Q Q', r = .agg [sv3 a, sv3 b] ∧ h' = [.bag 0 Q'] ∧ Q'.Perm (Q ++ Ps) ∧ OwnT t a b Q
/-- two own rows that are a tree go into the arena -/
theorem AFn.tree {P : Program} {f : FuncId} {args : List AV} {Ps : List RowD} {t : Tr8} (ha : AFn P f args [.bag 0 Ps] (fun r h' => ∃ (xs : List Kd3) (Q Q' : List RowD), r = .agg [.own 1 t.es.length, .own 2 t.ks.length] ∧ h' = [.bag 0 Q', .row 1 126 4 (t.es.map entE), .row 2 122 3 (xs.map kdE)] ∧ Q'.Perm (Q ++ Ps) ∧ OwnK t.ks xs Q ∧ xs.length = t.ks.length)) : AFn P f args [.bag 0 Ps] (AnsT t Ps) := by
  refine ha.into ?_
  rintro r h' ⟨xs, Q, Q', rfl, rfl, hp, ho, hx⟩
  refine ⟨Q', _, _, t.es.map entE, _, _, xs.map kdE, by rw [List.length_map, List.length_map, hx], rfl, fun E a1 c1 a2 c2 rs1 rs2 g1 g2 => ?_⟩
  have e1 := VLL_flat (f := entE) (g := entV) (fun _ => rfl) g1
  have e2 := VLL_flat (f := kdE) (g := kdV) (fun _ => rfl) g2
  refine ⟨(a1, _, c1), (a2, _, c2), _, _, rfl, rfl, (hp.cons _).cons _, (OwnT_iff ..).2 ⟨_, _, xs, Q, rfl, ⟨rfl, rfl, rfl, e1⟩, ⟨rfl, rfl, rfl, e2⟩, ho⟩⟩
theorem cloneE_o (l : List Ent8) (hn : l.length ≤ 1000000) : AFn Tryz.prog 155 [lstE entE l] [] (fun r h' => r = .own 0 l.length ∧ h' = [.row 0 126 4 (l.map entE)]) := by
  refine AFn.nilV (El := 126) (k := 4) (R' := fun r h' => (r = .nils ∧ h' = [] ∧ l.length = 0) ∨ (r = .own 0 l.length ∧ h' = [.row 0 126 4 (l.map entE)])) ?_ (fun r h' hr => hr.symm.imp id fun ⟨h1, h2, h3⟩ => ⟨h1, h2, by rw [h3], by rw [List.eq_nil_of_length_eq_zero h3]; rfl⟩)
  refine afn_in ty_ok Tryz.call155 Tryz.func155 rfl rfl (by decide +kernel) ?_
  (try conv=>whnf)<;>repeat'((first|exact sNo|refine sT ?_|refine sF ?_|((first|refine sD ?_ ?_|refine sE ?_ ?_|refine sN ?_ ?_|refine sG ?_ ?_)<;>intro ht<;>(first|(cases ht;done)|skip))|refine wr ?_|refine ix ?_|refine ati ?_|refine row ?_|refine app ?_|refine dr ?_|refine VAnd.mk ?_ ?_|exact VJe.mk rfl ⟨rfl,rfl⟩|refine .inl (slM ?_)|refine .inl (slO ?_)|refine slM ?_|refine slO ?_|refine slN ?_|refine slS ?_|refine swB (swM fun C hC=>?_)|refine sj ?_|refine .inl (sv ?_)|refine sv ?_|refine cl ?_|refine s3 ?_|refine az ?_|refine rm ?_|refine VBs.own ?_|refine vNl (fun hb => ?_) ?_|fail)<;>(try conv=>whnf))
  · exact VRt.mk rfl (.inl ⟨rfl, rfl, by assumption⟩)
  · exact VRt.mk rfl (.inr ⟨by simp, rfl⟩)
theorem cloneA : ∀ (d : Nat) (t : Tr8), rightT d t = true → cntT t ≤ 1000000 → ∀ Ps, AFn Tryz.prog 138 [.agg [lstE entE t.es, lstE kidRow t.ks]] [.bag 0 Ps] (AnsT t Ps)
  | 0, t, hr, hc, _ => by cases hr
  | d + 1, t, hr, hc, Ps => by
    have ih := cloneA d
    refine AFn.tree ?_
    rw [kidRow_fun]
    refine afn_in ty_ok Tryz.call138 Tryz.func138 rfl rfl (by decide +kernel) ?_
    have hcnt := cntT_eq t
    have r1 := cloneE_o t.es (by omega)
    (try conv=>whnf)<;>repeat'((first|exact sNo|refine sT ?_|refine sF ?_|((first|refine sD ?_ ?_|refine sE ?_ ?_|refine sN ?_ ?_|refine sG ?_ ?_)<;>intro ht<;>(first|(cases ht;done)|skip))|refine wr ?_|refine ix ?_|refine ati ?_|refine row ?_|refine app ?_|refine dr ?_|refine VAnd.mk ?_ ?_|exact VJe.mk rfl ⟨rfl,rfl⟩|refine .inl (slM ?_)|refine .inl (slO ?_)|refine slM ?_|refine slO ?_|refine slN ?_|refine slS ?_|refine swB (swM fun C hC=>?_)|refine sj ?_|refine .inl (sv ?_)|refine sv ?_|refine cl ?_|refine s3 ?_|refine az ?_|refine rm ?_|refine VBs.own ?_|(refine co r1 ?_;rintro r h' ⟨rfl,rfl⟩)|fail)<;>(try conv=>whnf))
    refine VLp.mk ⟨[.cell 4 1 122 3], [], [2, 3, 13], fun k vs h => ∃ (i : Nat) (xs : List Kd3) (Q Q' : List RowD), vs = [.op 1 0, .op 2 0, i64 i] ∧ h = [.bag 0 Q', .blk 1 [.nils, .nils] 37, .blk 2 [.own 3 t.es.length, .own 4 xs.length] 37, .row 3 126 4 (t.es.map entE), .row 4 122 3 (xs.map kdE)] ∧ i ≤ t.ks.length ∧ k = t.ks.length - i ∧ Q'.Perm (Q ++ Ps) ∧ OwnK (t.ks.take i) xs Q ∧ xs.length = i, t.ks.length, ?_⟩
    conv => whnf
    refine ⟨⟨0, [], [], Ps, rfl, rfl, by omega, by omega, List.Perm.refl _, by rw [List.take_zero, OwnK]; exact ⟨rfl, rfl⟩, rfl⟩, ?_⟩
    rintro k vs h ⟨i, xs, Q, Q', rfl, rfl, hi, rfl, hp, ho, hx⟩
    by_cases hin : i < t.ks.length
    · have hcx := cntK_mem (List.getElem_mem hin)
      have r := ih t.ks[i].2 (rightT_child hr hin) (by omega) Q'
      (try conv=>whnf)<;>repeat'((first|(refine drx [1,3,5,6,2000] [] [] ?_;(try conv=>whnf);(fail_if_success (show False)))|exact sNo|refine sT ?_|refine sF ?_|((first|refine sD ?_ ?_|refine sE ?_ ?_|refine sN ?_ ?_|refine sG ?_ ?_)<;>intro ht<;>(first|(cases ht;done)|skip))|refine wr ?_|refine ix ?_|refine ati ?_|refine row ?_|refine app ?_|refine dr ?_|refine VAnd.mk ?_ ?_|exact VJe.mk rfl ⟨rfl,rfl⟩|refine .inl (slM ?_)|refine .inl (slO ?_)|refine slM ?_|refine slO ?_|refine slN ?_|refine slS ?_|refine swB (swM fun C hC=>?_)|refine sj ?_|refine .inl (sv ?_)|refine sv ?_|refine cl ?_|refine s3 ?_|refine az ?_|refine rm ?_|refine VBs.own ?_|(refine ca r ?_;rintro r h' ⟨a,b,Qi,Qi',rfl,rfl,hpi,hoi⟩)|fail)<;>(try conv=>whnf))
      all_goals exact VRd.mk rfl ⟨t.ks.length - (i + 1), by omega, i + 1, xs ++ [(t.ks[i].1, a, b)], Q ++ Qi, Qi', rfl, by simp [kdE], by omega, rfl, (hpi.trans (hp.append_left _)).trans (by rw [← List.append_assoc]; exact List.perm_append_comm.append_right _), by rw [← take_snoc hin]; exact OwnK_snoc ho hoi, by simp [hx]⟩
    · obtain rfl : i = t.ks.length := by omega
      rw [List.take_length] at ho
      (try conv=>whnf)<;>repeat'((first|exact sNo|refine sT ?_|refine sF ?_|((first|refine sD ?_ ?_|refine sE ?_ ?_|refine sN ?_ ?_|refine sG ?_ ?_)<;>intro ht<;>(first|(cases ht;done)|skip))|refine wr ?_|refine ix ?_|refine ati ?_|refine row ?_|refine app ?_|refine dr ?_|refine VAnd.mk ?_ ?_|exact VJe.mk rfl ⟨rfl,rfl⟩|refine .inl (slM ?_)|refine .inl (slO ?_)|refine slM ?_|refine slO ?_|refine slN ?_|refine slS ?_|refine swB (swM fun C hC=>?_)|refine sj ?_|refine .inl (sv ?_)|refine sv ?_|refine cl ?_|refine s3 ?_|refine az ?_|refine rm ?_|refine VBs.own ?_|fail)<;>(try conv=>whnf))
      all_goals exact VRt.mk rfl ⟨xs, Q, Q', by rw [hx] <;> rfl, rfl, hp, ho, hx⟩
end Go.Proofs.YtlghgdgpbnlpmaaGreat
/- What is proved: a tree's top rows come out of the arena for a function that writes them. Conditions: none. -/
namespace Go.Proofs.YtlghgdgpbnlpmaaGreat
open Go.RowKit
set_option linter.unusedVariables false
theorem ownB_open {rs Q : List RowD} {D1 D2 : RowD} (hp : rs.Perm (D1 :: D2 :: Q)) : ownB [.bag rs] = ownB [.bag Q, .row D1.v D1.E D1.k D1.rows, .row D2.v D2.E D2.k D2.rows] := by
  funext b
  refine propext ⟨fun ⟨p, hm, hb⟩ => ?_, fun ⟨p, hm, hb⟩ => ⟨_, List.mem_singleton.2 rfl, ?_⟩⟩
  · rw [List.mem_singleton] at hm
    subst hm
    obtain ⟨x, hx, hxb⟩ := hb
    rcases List.mem_cons.1 (hp.mem_iff.1 hx) with rfl | hx
    · exact ⟨.row x.v x.E x.k x.rows, by simp, hxb⟩
    · rcases List.mem_cons.1 hx with rfl | hx
      · exact ⟨.row x.v x.E x.k x.rows, by simp, hxb⟩
      · exact ⟨.bag Q, by simp, x, hx, hxb⟩
  · simp only [List.mem_cons, List.not_mem_nil, or_false] at hm
    rcases hm with rfl | rfl | rfl
    · obtain ⟨x, hx, hxb⟩ := hb
      exact ⟨x, hp.mem_iff.2 (by simp [hx]), hxb⟩
    · exact ⟨D1, hp.mem_iff.2 (by simp), hb⟩
    · exact ⟨D2, hp.mem_iff.2 (by simp), hb⟩
theorem Sees.open {e : Ent} {H : Hp} {w : World} {rs Q : List RowD} {D1 D2 : RowD} (hp : rs.Perm (D1 :: D2 :: Q)) (h : Sees e H [.bag rs] w) : Sees e H [.bag Q, .row D1.v D1.E D1.k D1.rows, .row D2.v D2.E D2.k D2.rows] w := by
  have h1 := (h.bagPerm hp).bagOut
  have h2 := (h1.perm (L' := [.bag (D2 :: Q), .row D1.v D1.E D1.k D1.rows]) (List.Perm.swap _ _ _)).bagOut
  refine h2.perm ?_
  refine (List.Perm.swap _ _ _).trans ?_
  exact List.Perm.cons _ (List.Perm.swap _ _ _)
/-- the arguments are a tree in the arena: its top rows are handed over as own slices -/
theorem AFn.open {P : Program} {f : FuncId} {a b : Sl3} {D1 D2 : RowD} {Q Q0 : List RowD} {rows1 rows2 : List (List AV)} {R : List RowD → Prop} (hcall : ∀ (args : Array Value) w, (callFunc f args).run P w = .ok (.enter f args) w) (hv1 : D1.v = sl3 a) (hv2 : D2.v = sl3 b) (hp : Q0.Perm (D1 :: D2 :: Q)) (h1 : RowsV rows1 D1.rows) (h2 : RowsV rows2 D2.rows)
    (ha : AFn P f [.agg [.own 1 rows1.length, .own 2 rows2.length]] [.bag 0 Q, .row 1 D1.E D1.k rows1, .row 2 D2.E D2.k rows2] (fun r h' => r = .tup [] ∧ ∃ Q1 t, h' = .bag 0 Q1 :: t ∧ R Q1)) :
    AFn P f [.agg [sv3 a, sv3 b]] [.bag 0 Q0] (fun r h' => r = .tup [] ∧ ∃ Q1, h' = [.bag 0 Q1] ∧ R Q1) := by
  intro E vs L hnx hvs hh
  simp only [VH, VP] at hh
  obtain ⟨_, _, rfl, ⟨h0, rfl⟩, rfl⟩ := hh
  simp only [VL, V] at hvs
  obtain ⟨_, _, rfl, ⟨us, rfl, u1, us1, rfl, rfl, u2, us2, rfl, rfl, rfl⟩, rfl⟩ := hvs
  refine ⟨hcall, fun w hs => ?_⟩
  have hs2 := hs.open hp
  have d1 := hs2.holds (.row D1.v D1.E D1.k D1.rows) (by simp)
  have d2 := hs2.holds (.row D2.v D2.E D2.k D2.rows) (by simp)
  have l1 : D1.rows.length = rows1.length := VLL_len (h1 (Env.fz E.H))
  have l2 : D2.rows.length = rows2.length := VLL_len (h2 (Env.fz E.H))
  obtain ⟨a1, c1, e1, f1, _, g1⟩ := own_form d1.1
  obtain ⟨a2, c2, e2, f2, _, g2⟩ := own_form d2.1
  rw [l1] at e1 f1 g1
  rw [l2] at e2 f2 g2
  have hin := ha ⟨E.H, E.m, fun i => if i = 1 then D1.v else if i = 2 then D2.v else E.g i, 3⟩ [.agg #[sl3 a, sl3 b]] [.bag Q, .row D1.v D1.E D1.k D1.rows, .row D2.v D2.E D2.k D2.rows] rfl (by
    simp only [VL, V]
    exact ⟨_, _, rfl, ⟨_, rfl, _, _, rfl, ⟨by decide, hv1.symm, a1, c1, hv1.symm.trans e1, g1, f1⟩, _, _, rfl, ⟨by decide, hv2.symm, a2, c2, hv2.symm.trans e2, g2, f2⟩, rfl⟩, rfl⟩) (by
    simp only [VH, VP]
    exact ⟨_, _, rfl, ⟨by decide, rfl⟩, _, _, rfl, ⟨by decide, ⟨a1, c1, e1⟩, _, rfl, h1 _⟩, _, _, rfl, ⟨by decide, ⟨a2, c2, e2⟩, _, rfl, h2 _⟩, rfl⟩)
  have ho := ownB_open hp
  rw [ho] at hs2
  refine (hin.2 w hs2).mono ?_
  rintro x w' ⟨v, H', O, hx, hse, E', r, h', rfl, hE, hv, hh', hn, rfl, Q1, t, rfl, hR⟩
  simp only [VH, VP] at hh'
  obtain ⟨_, L', rfl, ⟨_, rfl⟩, ht⟩ := hh'
  rw [← ho] at hse
  refine ⟨v, E'.H, [.bag Q1], hx, hse.sub (by simp), ⟨E'.H, E.m, E.g, 1⟩, .tup [], [.bag 0 Q1], rfl, ⟨hE.H, by rw [hnx]; exact Nat.le_refl _, fun _ _ => rfl, fun _ _ => rfl⟩, ?_, ?_, rfl, rfl, Q1, rfl, hR⟩
  · simp only [V, VL] at hv ⊢
    exact hv
  · simp only [VH, VP]
    exact ⟨_, _, rfl, ⟨Nat.zero_lt_one, rfl⟩, rfl⟩
end Go.Proofs.YtlghgdgpbnlpmaaGreat
/- What is proved: whoever writes a tree full, that lies in the arena, takes its rows out of it and changes nothing else. Conditions: none. -/
namespace Go.Proofs.YtlghgdgpbnlpmaaGreat
open Go.RowKit
set_option linter.unusedVariables false
set_option linter.unusedSimpArgs false
set_option maxRecDepth 100000
set_option maxHeartbeats 16000000
def scrib : ByteArray := ⟨#[115, 99, 114, 105, 98, 98, 108, 101]⟩
def scrE : List AV := [i64 0, i64 0, .str scrib, i64 0]
def scrK (x : Kd3) : List AV := [.str scrib, sv3 x.2.1, sv3 x.2.2]
theorem rep_set {α : Type} {s : α} : ∀ {i : Nat} {l : List α}, i < l.length → (List.replicate i s ++ l.drop i).set i s = List.replicate (i + 1) s ++ l.drop (i + 1)
  | i, l, h => by
    rw [List.set_append_right _ _ (by simp), List.length_replicate, Nat.sub_self, List.drop_eq_getElem_cons h, List.set_cons_zero, List.replicate_succ', List.append_assoc]
    rfl
theorem rep_get {α : Type} {s : α} {i : Nat} {l : List α} (h : i < l.length) : (List.replicate i s ++ l.drop i)[i]? = some l[i] := by
  rw [List.getElem?_append_right (by simp), List.length_replicate, Nat.sub_self, List.drop_eq_getElem_cons h]
  rfl
theorem mid_get {α β : Type} {f g : α → β} {i : Nat} {l : List α} (h : i < l.length) : ((l.take i).map g ++ (l.drop i).map f)[i]? = some (f l[i]) := by
  rw [List.getElem?_append_right (by simp; omega), List.length_map, List.length_take, Nat.min_eq_left (by omega), Nat.sub_self, List.drop_eq_getElem_cons h]
  rfl
theorem mid_set {α β : Type} {f g : α → β} {i : Nat} {l : List α} (h : i < l.length) : ((l.take i).map g ++ (l.drop i).map f).set i (g l[i]) = (l.take (i + 1)).map g ++ (l.drop (i + 1)).map f := by
  rw [List.set_append_right _ _ (by simp; omega), List.length_map, List.length_take, Nat.min_eq_left (by omega), Nat.sub_self, List.drop_eq_getElem_cons h, List.map_cons, List.set_cons_zero, ← take_snoc h, List.map_append, List.append_assoc]
  rfl
theorem OwnK_len : ∀ {ks : List (ByteArray × Tr8)} {xs : List Kd3} {Q : List RowD}, OwnK ks xs Q → xs.length = ks.length
  | [], xs, Q, h => by rw [OwnK] at h; rw [h.1]; rfl
  | x :: ks, xs, Q, h => by
    rw [OwnK_cons] at h
    obtain ⟨e, k, xs', Q1, Q2, rfl, rfl, _, h2⟩ := h
    rw [List.length_cons, List.length_cons, OwnK_len h2]
/-- the tree is taken out of the arena, and written full -/
def TakesT (Qr : List RowD) (Q1 : List RowD) : Prop := Q1.Perm Qr
theorem entV_rows (es : List Ent8) : RowsV (es.map entE) (es.map entV) := fun E => VLL_map fun e _ => entV_VL E e
theorem kdV_rows (xs : List Kd3) : RowsV (xs.map kdE) (xs.map kdV) := fun E => VLL_map fun x _ => by
  simp only [kdE, kdV, VL, V]
  exact ⟨_, _, rfl, rfl, _, _, rfl, rfl, _, _, rfl, rfl, rfl⟩
theorem scribA : ∀ (n : Nat) (t : Tr8), deepT t ≤ n → cntT t ≤ 1000000 → ∀ (a b : Sl3) (Qt Qr Q0 : List RowD), OwnT t a b Qt → Q0.Perm (Qt ++ Qr) → AFn Tryz.prog 25 [.agg [sv3 a, sv3 b]] [.bag 0 Q0] (fun r h' => r = .tup [] ∧ ∃ Q1, h' = [.bag 0 Q1] ∧ Q1.Perm Qr)
  | 0, t, hd, _, _, _, _, _, _, _, _ => by
    rw [deepT_eq t] at hd
    omega
  | n + 1, t, hd, hc, a, b, Qt, Qr, Q0, hO, hp => by
    have ih := scribA n
    rw [OwnT_iff] at hO
    obtain ⟨D1, D2, xs, Q, rfl, h1, h2, h3⟩ := hO
    have hxl := OwnK_len h3
    have hcnt := cntT_eq t
    refine AFn.open (D1 := D1) (D2 := D2) (Q := Q ++ Qr) (rows1 := t.es.map entE) (rows2 := xs.map kdE) Tryz.call25 h1.v h2.v hp (by rw [h1.rows]; exact entV_rows _) (by rw [h2.rows]; exact kdV_rows _) ?_
    rw [h1.E, h1.k, h2.E, h2.k, List.length_map, List.length_map]
    refine afn_in ty_ok Tryz.call25 Tryz.func25 rfl rfl (by decide +kernel) ?_
    (try conv=>whnf)<;>repeat'((first|exact sNo|refine sT ?_|refine sF ?_|((first|refine sD ?_ ?_|refine sE ?_ ?_|refine sN ?_ ?_|refine sG ?_ ?_)<;>intro ht<;>(first|(cases ht;done)|skip))|refine wr ?_|refine ix ?_|refine ati ?_|refine row ?_|refine app ?_|refine dr ?_|refine VAnd.mk ?_ ?_|exact VJe.mk rfl ⟨rfl,rfl⟩|refine .inl (slM ?_)|refine .inl (slO ?_)|refine slM ?_|refine slO ?_|refine slN ?_|refine slS ?_|refine swB (swM fun C hC=>?_)|refine sj ?_|refine .inl (sv ?_)|refine sv ?_|refine cl ?_|refine s3 ?_|refine az ?_|refine rm ?_|refine VBs.own ?_|fail)<;>(try conv=>whnf))
    refine VLp.mk ⟨[], [1], [7], fun k vs h => ∃ i : Nat, vs = [i64 i] ∧ h = [.bag 0 (Q ++ Qr), .row 1 126 4 (List.replicate i scrE ++ (t.es.map entE).drop i), .row 2 122 3 (xs.map kdE), .blk 3 [.own 1 t.es.length, .own 2 xs.length] 37] ∧ i ≤ t.es.length ∧ k = t.es.length - i, t.es.length, ?_⟩
    conv => whnf
    refine ⟨⟨0, rfl, rfl, by omega, by omega⟩, ?_⟩
    rintro k vs h ⟨i, rfl, rfl, hi, rfl⟩
    by_cases hin : i < t.es.length
    · have hg := rep_get (s := scrE) (i := i) (l := t.es.map entE) (by simpa using hin)
      rw [List.getElem_map] at hg
      have hs := rep_set (s := scrE) (i := i) (l := t.es.map entE) (by simpa using hin)
      (try conv=>whnf)<;>repeat'((first|exact sNo|refine sT ?_|refine sF ?_|((first|refine sD ?_ ?_|refine sE ?_ ?_|refine sN ?_ ?_|refine sG ?_ ?_)<;>intro ht<;>(first|(cases ht;done)|skip))|refine wr ?_|refine ix ?_|refine ati ?_|refine row ?_|refine app ?_|refine dr ?_|refine VAnd.mk ?_ ?_|exact VJe.mk rfl ⟨rfl,rfl⟩|refine .inl (slM ?_)|refine .inl (slO ?_)|refine slM ?_|refine slO ?_|refine slN ?_|refine slS ?_|refine swB (swM fun C hC=>?_)|refine sj ?_|refine .inl (sv ?_)|refine sv ?_|refine cl ?_|refine s3 ?_|refine az ?_|refine rm ?_|refine VBs.own ?_|fail)<;>(try conv=>whnf))
      all_goals exact VRd.mk rfl ⟨t.es.length - (i + 1), by omega, i + 1, rfl, by rw [← hs] <;> rfl, by omega, rfl⟩
    · (try conv=>whnf)<;>repeat'((first|exact sNo|refine sT ?_|refine sF ?_|((first|refine sD ?_ ?_|refine sE ?_ ?_|refine sN ?_ ?_|refine sG ?_ ?_)<;>intro ht<;>(first|(cases ht;done)|skip))|refine wr ?_|refine ix ?_|refine ati ?_|refine row ?_|refine app ?_|refine dr ?_|refine VAnd.mk ?_ ?_|exact VJe.mk rfl ⟨rfl,rfl⟩|refine .inl (slM ?_)|refine .inl (slO ?_)|refine slM ?_|refine slO ?_|refine slN ?_|refine slS ?_|refine swB (swM fun C hC=>?_)|refine sj ?_|refine .inl (sv ?_)|refine sv ?_|refine cl ?_|refine s3 ?_|refine az ?_|refine rm ?_|refine VBs.own ?_|fail)<;>(try conv=>whnf))
      refine VLp.mk ⟨[], [1], [19], fun k vs h => ∃ (i : Nat) (R1 : List (List AV)) (Qi Q2 : List RowD), vs = [i64 i] ∧ h = [.bag 0 Qi, .row 1 126 4 R1, .row 2 122 3 ((xs.take i).map scrK ++ (xs.drop i).map kdE), .blk 3 [.own 1 t.es.length, .own 2 xs.length] 37] ∧ i ≤ xs.length ∧ k = xs.length - i ∧ Qi.Perm (Q2 ++ Qr) ∧ OwnK (t.ks.drop i) (xs.drop i) Q2, xs.length, ?_⟩
      conv => whnf
      refine ⟨⟨0, _, Q ++ Qr, Q, rfl, rfl, by omega, by omega, List.Perm.refl _, h3⟩, ?_⟩
      rintro k vs h ⟨i, R1, Qi, Q2, rfl, rfl, hi, rfl, hpi, hoi⟩
      by_cases hin : i < xs.length
      · have hg := mid_get (f := kdE) (g := scrK) hin
        have hs := mid_set (f := kdE) (g := scrK) hin
        rw [List.drop_eq_getElem_cons hin, List.drop_eq_getElem_cons (show i < t.ks.length by omega), OwnK_cons] at hoi
        obtain ⟨e, k', xs', Qa, Qb, hxs, rfl, hot, hok⟩ := hoi
        obtain ⟨hx1, rfl⟩ := List.cons.inj hxs
        have hkd := deepT_kid (List.getElem_mem (show i < t.ks.length by omega))
        have hkc := cntK_mem (List.getElem_mem (show i < t.ks.length by omega))
        have r := ih t.ks[i].2 (by omega) (by omega) e k' Qa (Qb ++ Qr) Qi hot (by rw [← List.append_assoc]; exact hpi)
        have hx2 : xs[i].2.1 = e := by rw [hx1]
        have hx3 : xs[i].2.2 = k' := by rw [hx1]
        rw [← hx2, ← hx3] at r
        (try conv=>whnf)<;>repeat'((first|exact sNo|refine sT ?_|refine sF ?_|((first|refine sD ?_ ?_|refine sE ?_ ?_|refine sN ?_ ?_|refine sG ?_ ?_)<;>intro ht<;>(first|(cases ht;done)|skip))|refine wr ?_|refine ix ?_|refine ati ?_|refine row ?_|refine app ?_|refine dr ?_|refine VAnd.mk ?_ ?_|exact VJe.mk rfl ⟨rfl,rfl⟩|refine .inl (slM ?_)|refine .inl (slO ?_)|refine slM ?_|refine slO ?_|refine slN ?_|refine slS ?_|refine swB (swM fun C hC=>?_)|refine sj ?_|refine .inl (sv ?_)|refine sv ?_|refine cl ?_|refine s3 ?_|refine az ?_|refine rm ?_|refine VBs.own ?_|(refine ca r ?_;rintro r h' ⟨rfl,Q1,rfl,hp1⟩)|fail)<;>(try conv=>whnf))
        all_goals exact VRd.mk rfl ⟨xs.length - (i + 1), by omega, i + 1, R1, Q1, Qb, rfl, by rw [← hs] <;> rfl, by omega, rfl, hp1, hok⟩
      · have hno : t.ks.drop i = [] := List.drop_eq_nil_of_le (by omega)
        rw [hno, OwnK] at hoi
        obtain ⟨_, rfl⟩ := hoi
        (try conv=>whnf)<;>repeat'((first|exact sNo|refine sT ?_|refine sF ?_|((first|refine sD ?_ ?_|refine sE ?_ ?_|refine sN ?_ ?_|refine sG ?_ ?_)<;>intro ht<;>(first|(cases ht;done)|skip))|refine wr ?_|refine ix ?_|refine ati ?_|refine row ?_|refine app ?_|refine dr ?_|refine VAnd.mk ?_ ?_|exact VJe.mk rfl ⟨rfl,rfl⟩|refine .inl (slM ?_)|refine .inl (slO ?_)|refine slM ?_|refine slO ?_|refine slN ?_|refine slS ?_|refine swB (swM fun C hC=>?_)|refine sj ?_|refine .inl (sv ?_)|refine sv ?_|refine cl ?_|refine s3 ?_|refine az ?_|refine rm ?_|refine VBs.own ?_|fail)<;>(try conv=>whnf))
        all_goals exact VRt.mk rfl ⟨rfl, Qi, _, rfl, hpi⟩
end Go.Proofs.YtlghgdgpbnlpmaaGreat
/- What is proved: an arena for a whole function; the reference's Clone answers into the arena. Conditions: none. -/
namespace Go.Proofs.YtlghgdgpbnlpmaaGreat
open Go.RowKit
set_option linter.unusedVariables false
set_option linter.unusedSimpArgs false
set_option maxRecDepth 100000
set_option maxHeartbeats 16000000
/-- an arena for a function that answers what lies in no memory -/
theorem AFnP.arena {P : Program} {f : FuncId} {args : List AV} {r : AV} {u : Value} (h : AFn P f args [.bag 0 []] (fun r' h' => r' = r ∧ ∃ Q, h' = [.bag 0 Q])) (hu : flatV r = some u) : AFnP P f args r := by
  intro H vs hvs
  have hvs2 : VL ⟨H, fun _ => 0, fun _ => .nilFunc, 1⟩ args vs := VL.mono hvs ⟨Hp.le.refl _, Nat.zero_le _, fun i hi => absurd hi (Nat.not_lt_zero i), fun i hi => absurd hi (Nat.not_lt_zero i)⟩
  obtain ⟨g1, g2⟩ := h ⟨H, fun _ => 0, fun _ => .nilFunc, 1⟩ vs [.bag []] rfl hvs2 (by simp only [VH, VP]; exact ⟨_, _, rfl, ⟨Nat.zero_lt_one, rfl⟩, rfl⟩)
  refine ⟨g1, fun w hs => ?_⟩
  have hno : ∀ p ∈ ([.bag []] : List Piece), ∀ b, ¬ p.hasB b := fun p hm b hb => by
    rw [List.mem_singleton] at hm
    subst hm
    obtain ⟨x, hx, _⟩ := hb
    cases hx
  have hs2 : Sees ⟨w, H, ownB [.bag []]⟩ H [.bag []] w := by
    rw [ownB_nilbag]
    refine ⟨hs.os, hs.tape, hs.output, hs.size, hs.keep, hs.le0, hs.le, hs.new, fun p hm => ?_, fun p hm b hb => absurd hb (hno p hm b), List.pairwise_singleton _ _, fun p hm b hb => absurd hb (hno p hm b)⟩
    rw [List.mem_singleton] at hm
    subst hm
    exact ⟨fun r hr => (by cases hr), List.Pairwise.nil⟩
  refine (g2 w hs2).mono ?_
  rintro x w' ⟨v, H', O, hx, hse, E', r', h', rfl, hE, hv, hh', hn, rfl, Q, rfl⟩
  rw [ownB_nilbag] at hse
  have h4 := (flatV_spec _ r' u hu).2 v hv
  subst h4
  exact ⟨v, E'.H, O, hx, hse, (flatV_spec _ r' v hu).1⟩
theorem rcloneA : ∀ (n : Nat) (t : Tr8), deepT t ≤ n → cntT t ≤ 1000000 → ∀ Ps, AFn Tryz.prog 24 [.agg [lstE entE t.es, lstE kidRow t.ks]] [.bag 0 Ps] (AnsT t Ps)
  | 0, t, hd, _, _ => by
    rw [deepT_eq t] at hd
    omega
  | n + 1, t, hd, hc, Ps => by
    have ih := rcloneA n
    refine AFn.tree ?_
    rw [kidRow_fun]
    refine afn_in ty_ok Tryz.call24 Tryz.func24 rfl rfl (by decide +kernel) ?_
    have hcnt := cntT_eq t
    (try conv=>whnf)<;>repeat'((first|exact sNo|refine sT ?_|refine sF ?_|((first|refine sD ?_ ?_|refine sE ?_ ?_|refine sN ?_ ?_|refine sG ?_ ?_)<;>intro ht<;>(first|(cases ht;done)|skip))|refine wr ?_|refine ix ?_|refine ati ?_|refine row ?_|refine app ?_|refine dr ?_|refine VAnd.mk ?_ ?_|exact VJe.mk rfl ⟨rfl,rfl⟩|refine .inl (slM ?_)|refine .inl (slO ?_)|refine slM ?_|refine slO ?_|refine slN ?_|refine slS ?_|refine swB (swM fun C hC=>?_)|refine sj ?_|refine .inl (sv ?_)|refine sv ?_|refine cl ?_|refine s3 ?_|refine az ?_|refine rm ?_|refine VBs.own ?_|fail)<;>(try conv=>whnf))
    refine VLp.mk ⟨[.cell 3 1 122 3, .frz [1]], [], [2, 3, 14], fun k vs h => ∃ (i : Nat) (xs : List Kd3) (Q Q' : List RowD), vs = [.op 1 0, .op 2 0, i64 i] ∧ h = [.bag 0 Q', .blk 1 [.nils, .nils] 37, .blk 2 [.own 3 t.es.length, .own 4 xs.length] 37, .row 3 126 4 (t.es.map entE), .row 4 122 3 (xs.map kdE)] ∧ i ≤ t.ks.length ∧ k = t.ks.length - i ∧ Q'.Perm (Q ++ Ps) ∧ OwnK (t.ks.take i) xs Q ∧ xs.length = i, t.ks.length, ?_⟩
    conv => whnf
    refine ⟨⟨0, [], [], Ps, rfl, by rw [Nat.zero_add] <;> rfl, by omega, by omega, List.Perm.refl _, by rw [List.take_zero, OwnK]; exact ⟨rfl, rfl⟩, rfl⟩, ?_⟩
    rintro k vs h ⟨i, xs, Q, Q', rfl, rfl, hi, rfl, hp, ho, hx⟩
    by_cases hin : i < t.ks.length
    · have hcx := cntK_mem (List.getElem_mem hin)
      have hkd := deepT_kid (List.getElem_mem hin)
      have r := ih t.ks[i].2 (by omega) (by omega) Q'
      (try conv=>whnf)<;>repeat'((first|(refine drx [1,14,2000] [3,7,9,13] [] ?_;(try conv=>whnf);(fail_if_success (show False)))|exact sNo|refine sT ?_|refine sF ?_|((first|refine sD ?_ ?_|refine sE ?_ ?_|refine sN ?_ ?_|refine sG ?_ ?_)<;>intro ht<;>(first|(cases ht;done)|skip))|refine wr ?_|refine ix ?_|refine ati ?_|refine row ?_|refine app ?_|refine dr ?_|refine VAnd.mk ?_ ?_|exact VJe.mk rfl ⟨rfl,rfl⟩|refine .inl (slM ?_)|refine .inl (slO ?_)|refine slM ?_|refine slO ?_|refine slN ?_|refine slS ?_|refine swB (swM fun C hC=>?_)|refine sj ?_|refine .inl (sv ?_)|refine sv ?_|refine cl ?_|refine s3 ?_|refine az ?_|refine rm ?_|refine VBs.own ?_|(refine ca r ?_;rintro r h' ⟨a,b,Qi,Qi',rfl,rfl,hpi,hoi⟩)|fail)<;>(try conv=>whnf))
      all_goals exact VRd.mk rfl ⟨t.ks.length - (i + 1), by omega, i + 1, xs ++ [(t.ks[i].1, a, b)], Q ++ Qi, Qi', rfl, by simp [kdE], by omega, rfl, (hpi.trans (hp.append_left _)).trans (by rw [← List.append_assoc]; exact List.perm_append_comm.append_right _), by rw [← take_snoc hin]; exact OwnK_snoc ho hoi, by simp [hx]⟩
    · obtain rfl : i = t.ks.length := by omega
      rw [List.take_length] at ho
      (try conv=>whnf)<;>repeat'((first|exact sNo|refine sT ?_|refine sF ?_|((first|refine sD ?_ ?_|refine sE ?_ ?_|refine sN ?_ ?_|refine sG ?_ ?_)<;>intro ht<;>(first|(cases ht;done)|skip))|refine wr ?_|refine ix ?_|refine ati ?_|refine row ?_|refine app ?_|refine dr ?_|refine VAnd.mk ?_ ?_|exact VJe.mk rfl ⟨rfl,rfl⟩|refine .inl (slM ?_)|refine .inl (slO ?_)|refine slM ?_|refine slO ?_|refine slN ?_|refine slS ?_|refine swB (swM fun C hC=>?_)|refine sj ?_|refine .inl (sv ?_)|refine sv ?_|refine cl ?_|refine s3 ?_|refine az ?_|refine rm ?_|refine VBs.own ?_|fail)<;>(try conv=>whnf))
      all_goals exact VRt.mk rfl ⟨xs, Q, Q', by rw [hx] <;> rfl, rfl, hp, ho, hx⟩
end Go.Proofs.YtlghgdgpbnlpmaaGreat
