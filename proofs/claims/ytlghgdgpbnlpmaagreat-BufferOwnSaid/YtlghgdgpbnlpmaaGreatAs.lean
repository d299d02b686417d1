/- What is proved: what is owned reads as frozen, once it is given up or while it is lent; the state of a walk over abstract values. Conditions: none. -/
import Derived.Test.YtlghgdgpbnlpmaaGreatAv
namespace Go.Proofs.YtlghgdgpbnlpmaaGreat
open Go.RowKit

def rowOf (h : List AP) (id : Nat) : Option (List (List AV)) := match pos id h with | some (_, .row _ _ _ rows) => some rows | _ => none
def blkOf (h : List AP) (id : Nat) : Option (List AV) := match pos id h with | some (_, .blk _ cs _) => some cs | _ => none
/-- what is owned, as frozen: rows alone; then blocks too -/
def fz0 (h : List AP) : Tr where
  own id n := match rowOf h id with | some rows => .lst n rows | none => .junk
  op _ _ := .junk
  orp _ _ _ _ := .junk
  nils := .lst 0 []
def fz1 (h : List AP) : Tr where
  own id n := match rowOf h id with | some rows => .lst n rows | none => .junk
  op id off := match blkOf h id with | some cs => .fp (trL (fz0 h) cs) off | none => .junk
  orp _ _ _ _ := .junk
  nils := .lst 0 []
structure Frz (E : Env) (h : List AP) (L : List Piece) (H' : Hp) : Prop where
  H : Hp.le E.H H'
  hl : VH E h L
  hp : ∀ p ∈ L, ∃ w : World, p.holds w ∧ ∀ b, p.hasB b → H' b = w.heap[b]?
theorem At_cells {w : World} {H' : Hp} {g j k : Nat} {us : List Value} (hb : H' g = w.heap[g]?) (hc : ∀ x u, us[x]? = some u → w.cell? ((⟨g, 0, none⟩ : Addr).add (j * k + x)) = some u) : At H' ((⟨g, 0, none⟩ : Addr).add (j * k)) us := by
  intro x u hu
  have h1 := hc x u hu
  rw [add_add]
  rw [← cellH_hp] at h1
  unfold cellH at h1 ⊢
  rw [add_block] at h1 ⊢
  show (match H' g with | some (.cells c _ _) => _ | _ => none) = some u
  rw [hb]
  exact h1
theorem frz_row {E : Env} {h : List AP} {L : List Piece} {H' : Hp} (f : Frz E h L H') {id n : Nat} {rows : List (List AV)} (hr : rowOf h id = some rows) {v : Value} (hv : V E (.own id n) v) : V (Env.fz H') (.lst n rows) v := by
  unfold rowOf at hr
  split at hr
  · rename_i i id' El k rows' hp
    cases hr
    obtain ⟨hid, hi, q, hq, hvp⟩ := pos_spec f.hl hp
    simp only [AP.id] at hid
    subst hid
    simp only [V] at hv
    obtain ⟨h1, rfl, a, c, hg, _⟩ := hv
    simp only [VP] at hvp
    obtain ⟨_, _, rs, rfl, hrs⟩ := hvp
    obtain ⟨w, ⟨hown, hlen⟩, hH⟩ := f.hp _ (List.mem_of_getElem? hq)
    have hl := VLL_len hrs
    obtain ⟨a', c', h2, h3, h4, _⟩ := own_form hown
    rw [hg] at h2
    cases h2
    simp only [V]
    refine ⟨a, c, k, hg, hl, h3, h4, VR_mk fun j r hr => ?_⟩
    obtain ⟨us, hus, hvl⟩ := VLL_get hrs hr
    have hk : us.length = k := hlen us (List.mem_of_getElem? hus)
    have hj : j < rs.length := (List.getElem?_eq_some_iff.1 hus).1
    rcases hown.2 with ⟨_, h0⟩ | ⟨g, cap, cur, hgg, _⟩
    · omega
    · rw [hg] at hgg
      cases hgg
      refine ⟨_, us, rfl, by rw [← VL_len hvl, hk], ?_, hvl.mono (Env.le.fz f.H)⟩
      rw [Nat.zero_add]
      refine At_cells (hH g (by simp [Piece.hasB, Value.ownBlock, hg])) fun x u hu => ?_
      exact hown.cells (g := g) (by rw [hg]; rfl) _ _ (flatten_at hlen hus hu)
  · cases hr
theorem fz0_ok {E : Env} {h : List AP} {L : List Piece} {H' : Hp} (f : Frz E h L H') : TrOk (fz0 h) E (Env.fz H') where
  H := f.H
  own id n v hv := by
    simp only [fz0]
    cases hr : rowOf h id with
    | none => simp only [V]
    | some rows => exact frz_row f hr hv
  op id off v hv := by simp only [fz0, V]
  orp id k j off v hv := by simp only [fz0, V]
  sub id k lo n C w v hv := by simp only [fz0, V]
  nils v hv := by
    simp only [V] at hv
    simp only [fz0, V]
    exact ⟨none, 0, 0, hv, rfl, Nat.le_refl _, Nat.zero_le _, by simp only [VR]⟩
theorem frz_blk {E : Env} {h : List AP} {L : List Piece} {H' : Hp} (f : Frz E h L H') {id off : Nat} {cs : List AV} (hr : blkOf h id = some cs) {v : Value} (hv : V E (.op id off) v) : V (Env.fz H') (.fp (trL (fz0 h) cs) off) v := by
  unfold blkOf at hr
  split at hr
  · rename_i i id' cs' T hp
    cases hr
    obtain ⟨hid, hi, q, hq, hvp⟩ := pos_spec f.hl hp
    simp only [AP.id] at hid
    subst hid
    simp only [V] at hv
    obtain ⟨h1, rfl⟩ := hv
    simp only [VP] at hvp
    obtain ⟨_, us, rfl, hus⟩ := hvp
    obtain ⟨w, hw, hH⟩ := f.hp _ (List.mem_of_getElem? hq)
    simp only [Piece.holds] at hw
    simp only [V]
    refine ⟨_, us, rfl, ?_, VL_tr (fz0_ok f) _ _ hus⟩
    have := At_cells (H' := H') (w := w) (g := E.m id') (j := 0) (k := 0) (us := us) (hH _ rfl) (fun x u hu => by simp only [Nat.zero_mul, Nat.zero_add]; rw [cell_blk hw, hu])
    have e0 : (⟨E.m id', 0, none⟩ : Addr).add (0 * 0) = ⟨E.m id', 0, none⟩ := rfl
    rw [e0] at this
    exact this
  · cases hr
theorem fz1_ok {E : Env} {h : List AP} {L : List Piece} {H' : Hp} (f : Frz E h L H') : TrOk (fz1 h) E (Env.fz H') where
  H := f.H
  own id n v hv := by
    simp only [fz1]
    cases hr : rowOf h id with
    | none => simp only [V]
    | some rows => exact frz_row f hr hv
  op id off v hv := by
    simp only [fz1]
    cases hr : blkOf h id with
    | none => simp only [V]
    | some cs => exact frz_blk f hr hv
  orp id k j off v hv := by simp only [fz1, V]
  sub id k lo n C w v hv := by simp only [fz1, V]
  nils v hv := (fz0_ok f).nils v hv
theorem Frz.lend {E : Env} {h : List AP} {L : List Piece} {e : Ent} {H1 : Hp} {L1 O : List Piece} {w : World} (hl : VH E h L) (hH : Hp.le E.H H1) (hs : Sees e H1 L1 w) (hL : L1 = O ++ L) : Frz E h L (Go.Proofs.YtlghgdgpbnlpmaaGreat.hp w) where
  H := hH.trans hs.le
  hl := hl
  hp p hp := ⟨w, hs.holds p (by rw [hL]; exact List.mem_append_right _ hp), fun _ _ => rfl⟩
theorem freezeAll {e : Ent} : ∀ (L1 : List Piece) {H : Hp} {L2 : List Piece} {w : World}, Sees e H (L1 ++ L2) w → ∃ H', Hp.le H H' ∧ Sees e H' L2 w ∧ ∀ p ∈ L1, ∀ b, p.hasB b → H' b = w.heap[b]?
  | [], H, L2, w, hs => ⟨H, Hp.le.refl _, hs, fun p hp => by cases hp⟩
  | p :: L1, H, L2, w, hs => by
    obtain ⟨H1, h1, h2, h3⟩ := hs.freeze (p := p) (L1 := L1 ++ L2) (List.Perm.refl _)
    obtain ⟨H2, h4, h5, h6⟩ := freezeAll L1 h2
    refine ⟨H2, h1.trans h4, h5, fun q hq b hb => ?_⟩
    rcases List.mem_cons.1 hq with rfl | hq
    · have hlt : b < w.heap.size := Piece.lt (hs.holds q (List.mem_cons_self ..)) hb
      have h7 := h3 b hb
      rw [Array.getElem?_eq_getElem hlt] at h7 ⊢
      exact h4 b _ h7
    · exact h6 q hq b hb

/-! the state -/
structure RS (E : Env) (s : AS) (F : Slots) (L : List Piece) : Prop where
  f : ∀ t, V E (s.F t) (F t)
  h : VH E s.h L
  nx : E.nx = s.nx
def cv1 : Value → AV
  | .int k n => .int k n
  | .bool b => .bool b
  | .string s => .str s
  | .pointer none => .nilp
  | .slice none 0 0 => .nils
  | .nilFunc => .nilfn
  | _ => .junk
def cv : Value → AV
  | .agg cs => .agg (cs.toList.map cv1)
  | .tuple ⟨[]⟩ => .undef
  | v => cv1 v
theorem V_cv1 (E : Env) (v : Value) : V E (cv1 v) v := by
  unfold cv1
  split <;> simp only [V]
theorem VL_cv1 (E : Env) : ∀ l : List Value, VL E (l.map cv1) l
  | [] => by simp only [List.map_nil, VL]
  | v :: l => by simp only [List.map_cons, VL]; exact ⟨v, l, rfl, V_cv1 E v, VL_cv1 E l⟩
theorem V_cv (E : Env) (v : Value) : V E (cv v) v := by
  unfold cv
  split
  · rename_i cs
    simp only [V]
    exact ⟨cs.toList, by simp, VL_cv1 E cs.toList⟩
  · simp only [V]; rfl
  · exact V_cv1 E _
def evA (s : AS) : Operand → AV
  | .tmp t => s.F t
  | .const v => cv v
  | .global _ => .junk
  | .func f => .fn f []
theorem RS.ev {E : Env} {s : AS} {F : Slots} {L : List Piece} (h : RS E s F L) : ∀ x : Operand, V E (evA s x) (ev F x)
  | .tmp t => h.f t
  | .const v => V_cv E v
  | .global g => by simp only [evA, V]
  | .func f => by simp only [evA, V, VL, Go.Proofs.YtlghgdgpbnlpmaaGreat.ev]; exact ⟨[], rfl, rfl⟩
theorem RS.evs {E : Env} {s : AS} {F : Slots} {L : List Piece} (h : RS E s F L) (xs : List Operand) : VL E (xs.map (evA s)) (xs.map (Go.Proofs.YtlghgdgpbnlpmaaGreat.ev F)) := VL_map fun x _ => h.ev x
def updA (F : Nat → AV) (d : Nat) (v : AV) : Nat → AV := fun t => bif Nat.beq t d then v else F t
def AS.put (s : AS) (d : Option Nat) (v : AV) : AS :=
  match d with
  | some d => ⟨updA s.F d v, s.h, s.nx⟩
  | none => s
theorem RS.put {E : Env} {s : AS} {F : Slots} {L : List Piece} (h : RS E s F L) (d : Option Nat) {a : AV} {v : Value} (hv : V E a v) : RS E (s.put d a) (updO F d v) L := by
  cases d with
  | none => exact h
  | some d =>
    refine ⟨fun t => ?_, h.h, h.nx⟩
    simp only [AS.put, updA, updO, upd]
    cases Nat.beq t d with
    | true => exact hv
    | false => exact h.f t
theorem RS.mono {E E' : Env} {s : AS} {F : Slots} {L : List Piece} (h : RS E s F L) (hh : E.le E') (hn : E'.nx = s.nx) : RS E' s F L :=
  ⟨fun t => (h.f t).mono hh, VH_mono hh h.h, hn⟩

/-! what is known of the types, as a table -/
structure TyI where
  agg : Bool := false
  k : Nat := 0
  el : Option (Nat × Nat × Nat) := none
  ar : Option (Nat × Nat) := none
  fo : List Nat := []
  z : Option (List Value) := none
  bz : Option (List Value × List (Nat × Nat)) := none
  bo : Bool := false
  st : Bool := false
  nl : Nat := 0
  it : Bool := false
  ik : Option IntKind := none
  eq : Option (List Ck) := none
  ix : Option (Nat × Nat × Bool) := none
structure TyOk (P : Program) (T : TypeId) (i : TyI) : Prop where
  one : i.agg = false → i.k = 1 → One P T
  ag : i.agg = true → Ag P T i.k
  sz : i.agg = false → i.k ≠ 1 → i.k = 0
  el : ∀ E k b, i.el = some (E, k, b) → SlT P T E k b
  ar : ∀ n k, i.ar = some (n, k) → ∃ E, ArT P T n E k
  fo : ∀ f o, i.fo[f]? = some o → Fld P T f o
  z : ∀ zs, i.z = some zs → Ze P T zs
  bz : ∀ zs pl, i.bz = some (zs, pl) → BdT P T zs pl
  bo : i.bo = true → BlT P T
  st : i.st = true → StT P T
  np : i.nl = 1 → ∃ e, P.underlying T = some (.pointer e)
  it : i.it = true → ∃ k, P.underlying T = some (.int k)
  ik : ∀ k, i.ik = some k → P.underlying T = some (.int k)
  nf : i.nl = 2 → ∃ a b c, P.underlying T = some (.func a b c)
  ix : ∀ n k g, i.ix = some (n, k, g) → ∃ E, P.underlying T = some (.array n E) ∧ (∀ w, (sizeOf E).run P w = .ok k w) ∧ (∀ w, (Go.isAgg E).run P w = .ok g w)
  eq : ∀ sh, i.eq = some sh → EqT P T sh
theorem TyOk.none (P : Program) (T : TypeId) : TyOk P T {} where
  one _ h := by cases h
  sz _ _ := rfl
  ag h := by cases h
  el _ _ _ h := by cases h
  ar _ _ h := by cases h
  fo _ _ h := by cases h
  z _ h := by cases h
  bz _ _ h := by cases h
  bo h := by cases h
  st h := by cases h
  np h := by cases h
  it h := by cases h
  ik _ h := by cases h
  nf h := by cases h
  ix _ _ _ h := by cases h
  eq _ h := by cases h
def tyAt : List (Nat × TyI) → Nat → TyI
  | [], _ => {}
  | (t, i) :: r, T => bif Nat.beq t T then i else tyAt r T
def TabOk (P : Program) : List (Nat × TyI) → Prop
  | [] => True
  | (t, i) :: r => TyOk P t i ∧ TabOk P r
theorem TabOk.at_ {P : Program} : ∀ {l : List (Nat × TyI)}, TabOk P l → ∀ T, TyOk P T (tyAt l T)
  | [], _, T => TyOk.none P T
  | (t, i) :: r, h, T => by
    rw [tyAt]
    cases hb : Nat.beq t T with
    | true => rw [cond_true, ← Nat.eq_of_beq_eq_true hb]; exact h.1
    | false => rw [cond_false]; exact TabOk.at_ h.2 T

/-! contracts over abstract values -/
/-- called with these frozen arguments it answers r, frozen; all else stands -/
def AFnP (P : Program) (f : FuncId) (args : List AV) (r : AV) : Prop := ∀ H vs, VFL H args vs → Fn P f vs.toArray H [] (fun v H' _ => VF H' r v)
def AFnR (P : Program) (f : FuncId) (args : List AV) (R : AV → Prop) : Prop := ∀ H vs, VFL H args vs → Fn P f vs.toArray H [] (fun v H' _ => ∃ r, R r ∧ VF H' r v)
theorem AFnP.toR {P : Program} {f : FuncId} {args : List AV} {r : AV} (h : AFnP P f args r) : AFnR P f args (fun r' => r' = r) := fun H vs hv => (h H vs hv).mono fun _ _ _ _ hr => ⟨r, rfl, hr⟩
theorem AFnR.toP {P : Program} {f : FuncId} {args : List AV} {r : AV} (h : AFnR P f args (fun r' => r' = r)) : AFnP P f args r := fun H vs hv => (h H vs hv).mono fun _ _ _ _ ⟨_, e, hr⟩ => by rw [← e]; exact hr
theorem AFnR.mono {P : Program} {f : FuncId} {args : List AV} {R R' : AV → Prop} (h : AFnR P f args R) (hR : ∀ r, R r → R' r) : AFnR P f args R' := fun H vs hv => (h H vs hv).mono fun _ _ _ _ ⟨r, e, hr⟩ => ⟨r, hR r e, hr⟩
/-- the highest number in use -/
def topN : List AP → Nat → Nat
  | [], n => n
  | p :: h, n => topN h (bif Nat.ble (p.id + 1) n then n else p.id + 1)
/-- called with these arguments and owning the pieces h (numbered from 0) it answers and leaves what R says; the numbers of what was handed in stand -/
def AFn (P : Program) (f : FuncId) (args : List AV) (h : List AP) (R : AV → List AP → Prop) : Prop :=
  ∀ (E : Env) vs L, E.nx = h.length → VL E args vs → VH E h L → Fn P f vs.toArray E.H L (fun v H' O => ∃ E' r h', E'.H = H' ∧ E.le E' ∧ V E' r v ∧ VH E' h' O ∧ E'.nx = topN h' h.length ∧ R r h')
mutual
/-- a value that lies in no memory -/
def flatV : AV → Option Value
  | .int k n => some (.int k n)
  | .bool b => some (.bool b)
  | .str s => some (.string s)
  | .agg cs => match flatL cs with | some us => some (.agg us.toArray) | none => none
  | .tup cs => match flatL cs with | some us => some (.tuple us.toArray) | none => none
  | .fn _ _ => none
  | .nilfn => some .nilFunc
  | .lst _ _ => none
  | .nils => some (.slice none 0 0)
  | .own _ _ => none
  | .fp _ _ => none
  | .op _ _ => none
  | .orp _ _ _ _ => none
  | .sub _ _ _ _ _ _ => none
  | .nilp => some (.pointer none)
  | .junk => none
  | .undef => some Go.undef
  | .sval a n c => some (.slice a n c)
def flatL : List AV → Option (List Value)
  | [] => some []
  | a :: al => match flatV a with | some u => (match flatL al with | some us => some (u :: us) | none => none) | none => none
end
mutual
theorem flatV_spec (E : Env) : ∀ (a : AV) (u : Value), flatV a = some u → V E a u ∧ ∀ v, V E a v → v = u
  | .int _ _, u, h => by simp only [flatV] at h; cases h; simp [V]
  | .bool _, u, h => by simp only [flatV] at h; cases h; simp [V]
  | .str _, u, h => by simp only [flatV] at h; cases h; simp [V]
  | .agg cs, u, h => by
    simp only [flatV] at h
    cases hc : flatL cs with
    | none => rw [hc] at h; cases h
    | some us =>
      rw [hc] at h; cases h
      obtain ⟨h1, h2⟩ := flatL_spec E cs us hc
      simp only [V]
      exact ⟨⟨us, rfl, h1⟩, fun v ⟨us', h3, h4⟩ => by rw [h3, h2 us' h4]⟩
  | .tup cs, u, h => by
    simp only [flatV] at h
    cases hc : flatL cs with
    | none => rw [hc] at h; cases h
    | some us =>
      rw [hc] at h; cases h
      obtain ⟨h1, h2⟩ := flatL_spec E cs us hc
      simp only [V]
      exact ⟨⟨us, rfl, h1⟩, fun v ⟨us', h3, h4⟩ => by rw [h3, h2 us' h4]⟩
  | .fn _ _, u, h => by simp only [flatV] at h; cases h
  | .nilfn, u, h => by simp only [flatV] at h; cases h; simp [V]
  | .lst _ _, u, h => by simp only [flatV] at h; cases h
  | .nils, u, h => by simp only [flatV] at h; cases h; simp [V]
  | .own _ _, u, h => by simp only [flatV] at h; cases h
  | .fp _ _, u, h => by simp only [flatV] at h; cases h
  | .op _ _, u, h => by simp only [flatV] at h; cases h
  | .orp _ _ _ _, u, h => by simp only [flatV] at h; cases h
  | .sub _ _ _ _ _ _, u, h => by simp only [flatV] at h; cases h
  | .nilp, u, h => by simp only [flatV] at h; cases h; simp [V]
  | .junk, u, h => by simp only [flatV] at h; cases h
  | .undef, u, h => by simp only [flatV] at h; cases h; simp [V]
  | .sval _ _ _, u, h => by simp only [flatV] at h; cases h; simp [V]
theorem flatL_spec (E : Env) : ∀ (al : List AV) (us : List Value), flatL al = some us → VL E al us ∧ ∀ vs, VL E al vs → vs = us
  | [], us, h => by simp only [flatL] at h; cases h; simp [VL]
  | a :: al, us, h => by
    simp only [flatL] at h
    cases h1 : flatV a with
    | none => rw [h1] at h; cases h
    | some u =>
      cases h2 : flatL al with
      | none => rw [h1, h2] at h; cases h
      | some us' =>
        rw [h1, h2] at h; cases h
        obtain ⟨h3, h4⟩ := flatV_spec E a u h1
        obtain ⟨h5, h6⟩ := flatL_spec E al us' h2
        simp only [VL]
        exact ⟨⟨u, us', rfl, h3, h5⟩, fun vs ⟨v, vs', h7, h8, h9⟩ => by rw [h7, h4 v h8, h6 vs' h9]⟩
end
end Go.Proofs.YtlghgdgpbnlpmaaGreat
