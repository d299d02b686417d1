/- What is proved: a tree that lies in an arena, and what it reads as. Conditions: none. -/
import Derived.Test.YtailblpjmgabjaaAl
import Derived.Test.YtailblpjmgabjaaTh
namespace Go.Proofs.Ytailblpjmgabjaa
open Go.RowKit
set_option linter.unusedVariables false
abbrev Sl3 := Option Addr × Nat × Nat
def sl3 (x : Sl3) : Value := .slice x.1 x.2.1 x.2.2
abbrev sv3 (x : Sl3) : AV := .sval x.1 x.2.1 x.2.2
abbrev Kd3 := ByteArray × Sl3 × Sl3
def kdE (x : Kd3) : List AV := [.str x.1, sv3 x.2.1, sv3 x.2.2]
def kdV (x : Kd3) : List Value := [.string x.1, sl3 x.2.1, sl3 x.2.2]
def entV (e : Ent8) : List Value := [.int .i64 e.1.1, .int .i64 e.1.2, .string e.2.1, .int .i64 e.2.2]
structure EntD (es : List Ent8) (ev : Sl3) (D : RowD) : Prop where
  v : D.v = sl3 ev
  E : D.E = 63
  k : D.k = 4
  rows : D.rows = es.map entV
  n : ev.2.1 = es.length
structure KidD (xs : List Kd3) (kv : Sl3) (D : RowD) : Prop where
  v : D.v = sl3 kv
  E : D.E = 56
  k : D.k = 3
  rows : D.rows = xs.map kdV
  n : kv.2.1 = xs.length
mutual
/-- a tree lies in these rows -/
def OwnT : Tr8 → Sl3 → Sl3 → List RowD → Prop
  | .mk es ks, ev, kv, rs => ∃ D1 D2 xs Q, rs = D1 :: D2 :: Q ∧ EntD es ev D1 ∧ KidD xs kv D2 ∧ OwnK ks xs Q
def OwnK : List (ByteArray × Tr8) → List Kd3 → List RowD → Prop
  | [], xs, Q => xs = [] ∧ Q = []
  | x :: ks, xs, Q => ∃ e k xs' Q1 Q2, xs = (x.1, e, k) :: xs' ∧ Q = Q1 ++ Q2 ∧ OwnX x e k Q1 ∧ OwnK ks xs' Q2
def OwnX : ByteArray × Tr8 → Sl3 → Sl3 → List RowD → Prop
  | (_, t), e, k, Q => OwnT t e k Q
end
theorem OwnX_eq (x : ByteArray × Tr8) (e k : Sl3) (Q : List RowD) : OwnX x e k Q = OwnT x.2 e k Q := by
  obtain ⟨k, t⟩ := x
  rw [OwnX]
theorem OwnT_iff (t : Tr8) (ev kv : Sl3) (rs : List RowD) : OwnT t ev kv rs ↔ ∃ D1 D2 xs Q, rs = D1 :: D2 :: Q ∧ EntD t.es ev D1 ∧ KidD xs kv D2 ∧ OwnK t.ks xs Q := by
  obtain ⟨es, ks⟩ := t
  rw [OwnT]
  rfl
theorem OwnK_cons (x : ByteArray × Tr8) (ks : List (ByteArray × Tr8)) (xs : List Kd3) (Q : List RowD) : OwnK (x :: ks) xs Q ↔ ∃ e k xs' Q1 Q2, xs = (x.1, e, k) :: xs' ∧ Q = Q1 ++ Q2 ∧ OwnT x.2 e k Q1 ∧ OwnK ks xs' Q2 := by
  rw [OwnK]
  simp only [OwnX_eq]
theorem OwnK_snoc : ∀ {ks : List (ByteArray × Tr8)} {xs : List Kd3} {Q : List RowD} {x : ByteArray × Tr8} {e k : Sl3} {Q' : List RowD}, OwnK ks xs Q → OwnT x.2 e k Q' → OwnK (ks ++ [x]) (xs ++ [(x.1, e, k)]) (Q ++ Q')
  | [], xs, Q, x, e, k, Q', h, h' => by
    rw [OwnK] at h
    obtain ⟨rfl, rfl⟩ := h
    rw [List.nil_append, OwnK_cons]
    exact ⟨e, k, [], Q', [], rfl, by simp, h', by rw [OwnK]; exact ⟨rfl, rfl⟩⟩
  | y :: ks, xs, Q, x, e, k, Q', h, h' => by
    rw [OwnK_cons] at h
    obtain ⟨e0, k0, xs', Q1, Q2, rfl, rfl, h1, h2⟩ := h
    rw [List.cons_append, OwnK_cons]
    exact ⟨e0, k0, _, Q1, Q2 ++ Q', rfl, by rw [List.append_assoc], h1, OwnK_snoc h2 h'⟩
theorem deepK_memO : ∀ {ks : List (ByteArray × Tr8)} {x : ByteArray × Tr8}, x ∈ ks → deepT x.2 ≤ deepK ks
  | [], x, h => by cases h
  | y :: ks, x, h => by
    rw [deepK]
    rcases List.mem_cons.1 h with rfl | h
    · rw [deepX_eq]
      exact Nat.le_max_left _ _
    · exact Nat.le_trans (deepK_memO h) (Nat.le_max_right _ _)
theorem deepT_kid {t : Tr8} {x : ByteArray × Tr8} (h : x ∈ t.ks) : deepT x.2 + 1 ≤ deepT t := by
  rw [deepT_eq t]
  have := deepK_memO h
  omega
/-- rows in memory, read -/
theorem RowD.lst {D : RowD} {w : World} {H : Hp} (h : D.holds w) (hH : ∀ b, D.hasB b → H b = w.heap[b]?) {rows : List (List AV)} (hr : VLL (Env.fz H) rows D.rows) : V (Env.fz H) (.lst rows.length rows) D.v := by
  obtain ⟨v, E, k, rs⟩ := D
  obtain ⟨hown, hlen⟩ := h
  dsimp only at *
  have hl := VLL_len hr
  obtain ⟨a, c, rfl, h3, h4, _⟩ := own_form hown
  simp only [V]
  refine ⟨a, c, k, by rw [hl], trivial, by omega, h4, VR_mk fun j r hj => ?_⟩
  obtain ⟨us, hus, hvl⟩ := VLL_get hr hj
  have hk : us.length = k := hlen us (List.mem_of_getElem? hus)
  have hjl : j < rs.length := (List.getElem?_eq_some_iff.1 hus).1
  rcases hown.2 with ⟨_, h0⟩ | ⟨g, cap, cur, hgg, _⟩
  · omega
  · cases hgg
    refine ⟨_, us, rfl, by rw [← VL_len hvl, hk], ?_, hvl⟩
    rw [Nat.zero_add]
    refine At_cells (hH g rfl) fun x u hu => ?_
    exact hown.cells (g := g) rfl _ _ (flatten_at hlen hus hu)
theorem VLL_map {α : Type} {E : Env} {f : α → List AV} {g : α → List Value} : ∀ {l : List α}, (∀ x ∈ l, VL E (f x) (g x)) → VLL E (l.map f) (l.map g)
  | [], _ => by simp [VLL]
  | x :: l, h => by
    simp only [List.map_cons, VLL]
    exact ⟨_, _, rfl, h x (List.mem_cons_self ..), VLL_map fun y hy => h y (List.mem_cons_of_mem _ hy)⟩
theorem entV_VL (E : Env) (e : Ent8) : VL E (entE e) (entV e) := by
  simp only [entE, entV, i64, VL, V]
  exact ⟨_, _, rfl, rfl, _, _, rfl, rfl, _, _, rfl, rfl, _, _, rfl, rfl, rfl⟩
theorem OwnT_read {w : World} {H : Hp} : ∀ (n : Nat) {t : Tr8} {ev kv : Sl3} {rs : List RowD}, deepT t ≤ n → OwnT t ev kv rs → (∀ D ∈ rs, D.holds w) → (∀ D ∈ rs, ∀ b, D.hasB b → H b = w.heap[b]?) → VL (Env.fz H) [lstE entE t.es, lstE kidRow t.ks] [sl3 ev, sl3 kv]
  | 0, t, ev, kv, rs, hd, _, _, _ => by
    obtain ⟨es, ks⟩ := t
    rw [deepT] at hd
    omega
  | n + 1, t, ev, kv, rs, hd, h, hw, hH => by
    rw [OwnT_iff] at h
    obtain ⟨D1, D2, xs, Q, rfl, h1, h2, h3⟩ := h
    have a1 : V (Env.fz H) (lstE entE t.es) D1.v := by
      have := RowD.lst (H := H) (hw D1 (by simp)) (hH D1 (by simp)) (rows := t.es.map entE) (by rw [h1.rows]; exact VLL_map fun e _ => entV_VL _ e)
      rw [List.length_map] at this
      exact this
    have hk : ∀ (ks : List (ByteArray × Tr8)) (xs : List Kd3) (Q : List RowD), (∀ x ∈ ks, deepT x.2 ≤ n) → OwnK ks xs Q → (∀ D ∈ Q, D.holds w) → (∀ D ∈ Q, ∀ b, D.hasB b → H b = w.heap[b]?) → VLL (Env.fz H) (ks.map kidRow) (xs.map kdV) := fun ks => by
      induction ks with
      | nil =>
        intro xs Q _ h _ _
        rw [OwnK] at h
        obtain ⟨rfl, rfl⟩ := h
        simp [VLL]
      | cons x ks ih =>
        intro xs Q hdx h hw' hH'
        rw [OwnK_cons] at h
        obtain ⟨e, k, xs', Q1, Q2, rfl, rfl, g1, g2⟩ := h
        simp only [List.map_cons, VLL]
        refine ⟨_, _, rfl, ?_, ih xs' Q2 (fun y hy => hdx y (List.mem_cons_of_mem _ hy)) g2 (fun D hD => hw' D (List.mem_append_right _ hD)) (fun D hD => hH' D (List.mem_append_right _ hD))⟩
        have := OwnT_read n (hdx x (List.mem_cons_self ..)) g1 (fun D hD => hw' D (List.mem_append_left _ hD)) (fun D hD => hH' D (List.mem_append_left _ hD))
        rw [kidRow_eq]
        simp only [VL] at this ⊢
        refine ⟨_, _, rfl, ?_, this⟩
        simp only [V]
    have a2 : V (Env.fz H) (lstE kidRow t.ks) D2.v := by
      have := RowD.lst (H := H) (hw D2 (by simp)) (hH D2 (by simp)) (rows := t.ks.map kidRow) (by
        rw [h2.rows]
        exact hk t.ks xs Q (fun x hx => by have := deepT_kid hx; omega) h3 (fun D hD => hw D (by simp [hD])) (fun D hD => hH D (by simp [hD])))
      rw [List.length_map] at this
      exact this
    rw [← h1.v, ← h2.v]
    simp only [VL]
    exact ⟨_, _, rfl, a1, _, _, rfl, a2, rfl⟩
end Go.Proofs.Ytailblpjmgabjaa
