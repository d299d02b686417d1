/- What is proved: abstract values (whole numbers, texts, lists instead of addresses), and how they stand to the values of a run. Conditions: none. -/
import Derived.Test.YtlghgdgpbnlpmaaGreatRow
namespace Go.Proofs.YtlghgdgpbnlpmaaGreat
open Go.RowKit

/-- an abstract value: a frozen slice is the list of its rows of cells; a frozen pointer bears the cells at which it points; what is owned has a number -/
inductive AV where
  | int (k : IntKind) (n : Int)
  | bool (b : Bool)
  | str (s : ByteArray)
  | agg (cs : List AV)
  | tup (vs : List AV)
  | fn (f : FuncId) (caps : List AV)
  | nilfn
  | lst (n : Nat) (rows : List (List AV))
  | nils
  | own (id n : Nat)
  | fp (cs : List AV) (off : Nat)
  | op (id off : Nat)
  | orp (id k j off : Nat)
  /-- a part of an own slice (row id, from its element lo on, n elements; C: the own slice's capacity; w: all of it) -/
  | sub (id k lo n C : Nat) (w : Bool)
  | nilp
  | junk
  | undef
  /-- this very slice -/
  | sval (a : Option Addr) (n c : Nat)
instance : Inhabited AV := ⟨.junk⟩
structure Env where
  H : Hp
  m : Nat → Nat
  g : Nat → Value
  nx : Nat
/-- nothing is owned -/
def Env.fz (H : Hp) : Env := ⟨H, fun _ => 0, fun _ => .nilFunc, 0⟩
inductive AP where
  | blk (id : Nat) (cs : List AV) (T : TypeId)
  | row (id E k : Nat) (rows : List (List AV))
  /-- many rows at once, as they are -/
  | bag (id : Nat) (rs : List RowD)
structure AS where
  F : Nat → AV
  h : List AP
  nx : Nat

mutual
/-- how an abstract value stands to a value -/
def V : Env → AV → Value → Prop
  | _, .int k n, v => v = .int k n
  | _, .bool b, v => v = .bool b
  | _, .str s, v => v = .string s
  | E, .agg cs, v => ∃ us : List Value, v = .agg us.toArray ∧ VL E cs us
  | E, .tup cs, v => ∃ us : List Value, v = .tuple us.toArray ∧ VL E cs us
  | E, .fn f cs, v => ∃ us : List Value, v = .func (.func f) #[] us.toArray ∧ VL E cs us
  | _, .nilfn, v => v = .nilFunc
  | E, .lst n rows, v => ∃ a c k, v = .slice a n c ∧ n = rows.length ∧ n ≤ c ∧ c ≤ maxLen ∧ VR (Env.fz E.H) a k 0 rows
  | _, .nils, v => v = .slice none 0 0
  | E, .fp cs off, v => ∃ (A : Addr) (us : List Value), v = .pointer (some (A.add off)) ∧ At E.H A us ∧ VL (Env.fz E.H) cs us
  | _, .nilp, v => v = .pointer none
  | _, .junk, _ => True
  | _, .undef, v => v = Go.undef
  | _, .sval a n c, v => v = .slice a n c
  | E, .own id n, v => id < E.nx ∧ v = E.g id ∧ ∃ a c, v = .slice a n c ∧ (0 < n → ∃ b : Nat, a = some ⟨b, 0, none⟩) ∧ n ≤ c
  | E, .op id off, v => id < E.nx ∧ v = .pointer (some ((⟨E.m id, 0, none⟩ : Addr).add off))
  | E, .orp id k j off, v => id < E.nx ∧ ∃ b n c, E.g id = .slice (some ⟨b, 0, none⟩) n c ∧ v = .pointer (some (((⟨b, 0, none⟩ : Addr).add (j * k)).add off))
  | E, .sub id k lo n C w, v => id < E.nx ∧ ∃ b N a, E.g id = .slice (some ⟨b, 0, none⟩) N C ∧ v = .slice a n (C - lo) ∧ lo + n ≤ C ∧ (lo < C → a = some ((⟨b, 0, none⟩ : Addr).add (lo * k))) ∧ (w = true → lo = 0 ∧ n = N ∧ v = E.g id)
def VL : Env → List AV → List Value → Prop
  | _, [], us => us = []
  | E, a :: al, us => ∃ u us', us = u :: us' ∧ V E a u ∧ VL E al us'
def VR : Env → Option Addr → Nat → Nat → List (List AV) → Prop
  | _, _, _, _, [] => True
  | E, a, k, i, r :: rows => (∃ (ad : Addr) (us : List Value), a = some ad ∧ r.length = k ∧ At E.H (ad.add (i * k)) us ∧ VL E r us) ∧ VR E a k (i + 1) rows
end
abbrev VF (H : Hp) : AV → Value → Prop := V (Env.fz H)
abbrev VFL (H : Hp) : List AV → List Value → Prop := VL (Env.fz H)

section lists
variable {E : Env}
theorem VL_len : ∀ {al : List AV} {us : List Value}, VL E al us → us.length = al.length
  | [], us, h => by simp only [VL] at h; subst h; rfl
  | a :: al, us, h => by simp only [VL] at h; obtain ⟨u, us', rfl, _, h2⟩ := h; simp [VL_len h2]
theorem VL_get : ∀ {al : List AV} {us : List Value}, VL E al us → ∀ {i : Nat} {a : AV}, al[i]? = some a → ∃ u, us[i]? = some u ∧ V E a u
  | [], us, h, i, a, ha => by simp at ha
  | b :: al, us, h, 0, a, ha => by simp only [VL] at h; obtain ⟨u, us', rfl, h1, h2⟩ := h; simp at ha; subst ha; exact ⟨u, rfl, h1⟩
  | b :: al, us, h, i + 1, a, ha => by simp only [VL] at h; obtain ⟨u, us', rfl, h1, h2⟩ := h; simp at ha; simpa using VL_get h2 ha
theorem VL_set : ∀ {al : List AV} {us : List Value}, VL E al us → ∀ {i : Nat} {a : AV} {u : Value}, V E a u → VL E (al.set i a) (us.set i u)
  | [], us, h, i, a, u, _ => by simp only [VL] at h; subst h; simp [VL]
  | b :: al, us, h, 0, a, u, hu => by simp only [VL] at h; obtain ⟨u', us', rfl, h1, h2⟩ := h; simp only [List.set_cons_zero, VL]; exact ⟨u, us', rfl, hu, h2⟩
  | b :: al, us, h, i + 1, a, u, hu => by simp only [VL] at h; obtain ⟨u', us', rfl, h1, h2⟩ := h; simp only [List.set_cons_succ, VL]; exact ⟨u', _, rfl, h1, VL_set h2 hu⟩
theorem VL_append : ∀ {al bs : List AV} {us vs : List Value}, VL E al us → VL E bs vs → VL E (al ++ bs) (us ++ vs)
  | [], bs, us, vs, h, h' => by simp only [VL] at h; subst h; simpa using h'
  | a :: al, bs, us, vs, h, h' => by simp only [VL] at h; obtain ⟨u, us', rfl, h1, h2⟩ := h; simp only [List.cons_append, VL]; exact ⟨u, _, rfl, h1, VL_append h2 h'⟩
theorem VL_mk : ∀ {al : List AV} {us : List Value}, us.length = al.length → (∀ (i : Nat) (a : AV) (u : Value), al[i]? = some a → us[i]? = some u → V E a u) → VL E al us
  | [], us, hl, _ => by simp only [VL]; exact List.eq_nil_of_length_eq_zero hl
  | a :: al, [], hl, _ => by simp at hl
  | a :: al, u :: us, hl, h => by
    simp only [VL]
    exact ⟨u, us, rfl, h 0 a u rfl rfl, VL_mk (by simpa using hl) fun i a' u' h1 h2 => h (i + 1) a' u' (by simpa using h1) (by simpa using h2)⟩
theorem VL_map {α : Type} {f : α → AV} {g : α → Value} : ∀ {l : List α}, (∀ x ∈ l, V E (f x) (g x)) → VL E (l.map f) (l.map g)
  | [], _ => by simp [VL]
  | x :: l, h => by simp only [List.map_cons, VL]; exact ⟨_, _, rfl, h x (List.mem_cons_self ..), VL_map fun y hy => h y (List.mem_cons_of_mem _ hy)⟩
theorem VR_at {a : Option Addr} {k : Nat} : ∀ {rows : List (List AV)} {i : Nat}, VR E a k i rows → ∀ {j : Nat} {r : List AV}, rows[j]? = some r → ∃ (ad : Addr) (us : List Value), a = some ad ∧ r.length = k ∧ At E.H (ad.add ((i + j) * k)) us ∧ VL E r us
  | [], i, h, j, r, hr => by simp at hr
  | r0 :: rows, i, h, 0, r, hr => by simp only [VR] at h; simp at hr; subst hr; simpa using h.1
  | r0 :: rows, i, h, j + 1, r, hr => by
    simp only [VR] at h
    simp at hr
    have := VR_at h.2 hr
    rwa [show i + 1 + j = i + (j + 1) by omega] at this
theorem VR_mk {a : Option Addr} {k : Nat} : ∀ {rows : List (List AV)} {i : Nat}, (∀ (j : Nat) (r : List AV), rows[j]? = some r → ∃ (ad : Addr) (us : List Value), a = some ad ∧ r.length = k ∧ At E.H (ad.add ((i + j) * k)) us ∧ VL E r us) → VR E a k i rows
  | [], i, h => by simp only [VR]
  | r0 :: rows, i, h => by
    simp only [VR]
    refine ⟨by simpa using h 0 r0 rfl, VR_mk fun j r hr => ?_⟩
    have := h (j + 1) r (by simpa using hr)
    rwa [show i + (j + 1) = i + 1 + j by omega] at this
end lists

/-! more is frozen, more is owned -/
structure Env.le (E E' : Env) : Prop where
  H : Hp.le E.H E'.H
  nx : E.nx ≤ E'.nx
  m : ∀ i, i < E.nx → E'.m i = E.m i
  g : ∀ i, i < E.nx → E'.g i = E.g i
theorem Env.le.refl (E : Env) : E.le E := ⟨Hp.le.refl _, Nat.le_refl _, fun _ _ => rfl, fun _ _ => rfl⟩
theorem Env.le.trans {E E' E'' : Env} (h : E.le E') (h' : E'.le E'') : E.le E'' :=
  ⟨h.H.trans h'.H, Nat.le_trans h.nx h'.nx, fun i hi => (h'.m i (Nat.lt_of_lt_of_le hi h.nx)).trans (h.m i hi), fun i hi => (h'.g i (Nat.lt_of_lt_of_le hi h.nx)).trans (h.g i hi)⟩
theorem Env.le.fz {E E' : Env} (h : Hp.le E.H E'.H) : (Env.fz E.H).le (Env.fz E'.H) := ⟨h, Nat.le_refl _, fun i hi => absurd hi (Nat.not_lt_zero i), fun i hi => absurd hi (Nat.not_lt_zero i)⟩
theorem Env.le.of {H : Hp} {E : Env} (h : Hp.le H E.H) : (Env.fz H).le E := ⟨h, Nat.zero_le _, fun i hi => absurd hi (Nat.not_lt_zero i), fun i hi => absurd hi (Nat.not_lt_zero i)⟩
mutual
theorem V_mono : ∀ (E E' : Env) (a : AV) (v : Value), E.le E' → V E a v → V E' a v
  | E, E', .int _ _, v, hh, h => by simpa only [V] using h
  | E, E', .bool _, v, hh, h => by simpa only [V] using h
  | E, E', .str _, v, hh, h => by simpa only [V] using h
  | E, E', .agg cs, v, hh, h => by simp only [V] at h ⊢; obtain ⟨us, h1, h2⟩ := h; exact ⟨us, h1, VL_mono _ _ cs us hh h2⟩
  | E, E', .tup cs, v, hh, h => by simp only [V] at h ⊢; obtain ⟨us, h1, h2⟩ := h; exact ⟨us, h1, VL_mono _ _ cs us hh h2⟩
  | E, E', .fn f cs, v, hh, h => by simp only [V] at h ⊢; obtain ⟨us, h1, h2⟩ := h; exact ⟨us, h1, VL_mono _ _ cs us hh h2⟩
  | E, E', .nilfn, v, hh, h => by simpa only [V] using h
  | E, E', .lst n rows, v, hh, h => by simp only [V] at h ⊢; obtain ⟨a, c, k, h1, h2, h3, h4, h5⟩ := h; exact ⟨a, c, k, h1, h2, h3, h4, VR_mono _ _ a k 0 rows (Env.le.fz hh.H) h5⟩
  | E, E', .nils, v, hh, h => by simpa only [V] using h
  | E, E', .fp cs off, v, hh, h => by simp only [V] at h ⊢; obtain ⟨A, us, h1, h2, h3⟩ := h; exact ⟨A, us, h1, h2.mono hh.H, VL_mono _ _ cs us (Env.le.fz hh.H) h3⟩
  | E, E', .nilp, v, hh, h => by simpa only [V] using h
  | E, E', .junk, v, hh, h => by simp only [V]
  | E, E', .undef, v, hh, h => by simpa only [V] using h
  | E, E', .sval _ _ _, v, hh, h => by simpa only [V] using h
  | E, E', .own id n, v, hh, h => by simp only [V] at h ⊢; obtain ⟨h1, h2, h3⟩ := h; exact ⟨Nat.lt_of_lt_of_le h1 hh.nx, h2.trans (hh.g id h1).symm, h3⟩
  | E, E', .op id off, v, hh, h => by simp only [V] at h ⊢; obtain ⟨h1, h2⟩ := h; exact ⟨Nat.lt_of_lt_of_le h1 hh.nx, by rw [hh.m id h1]; exact h2⟩
  | E, E', .orp id k j off, v, hh, h => by simp only [V] at h ⊢; obtain ⟨h1, b, n, c, h2, h3⟩ := h; exact ⟨Nat.lt_of_lt_of_le h1 hh.nx, b, n, c, (hh.g id h1).trans h2, h3⟩
  | E, E', .sub id k lo n C w, v, hh, h => by simp only [V] at h ⊢; obtain ⟨h1, b, N, a, h2, h3, h4, h5, h6⟩ := h; exact ⟨Nat.lt_of_lt_of_le h1 hh.nx, b, N, a, (hh.g id h1).trans h2, h3, h4, h5, fun hw => by rw [hh.g id h1]; exact h6 hw⟩
theorem VL_mono : ∀ (E E' : Env) (al : List AV) (us : List Value), E.le E' → VL E al us → VL E' al us
  | E, E', [], us, hh, h => by simpa only [VL] using h
  | E, E', a :: al, us, hh, h => by simp only [VL] at h ⊢; obtain ⟨u, us', h1, h2, h3⟩ := h; exact ⟨u, us', h1, V_mono _ _ a u hh h2, VL_mono _ _ al us' hh h3⟩
theorem VR_mono : ∀ (E E' : Env) (a : Option Addr) (k i : Nat) (rows : List (List AV)), E.le E' → VR E a k i rows → VR E' a k i rows
  | E, E', a, k, i, [], hh, h => by simp only [VR]
  | E, E', a, k, i, r :: rows, hh, h => by simp only [VR] at h ⊢; obtain ⟨⟨ad, us, h1, h2, h3, h4⟩, h5⟩ := h; exact ⟨⟨ad, us, h1, h2, h3.mono hh.H, VL_mono _ _ r us hh h4⟩, VR_mono _ _ a k (i + 1) rows hh h5⟩
end
theorem V.mono {E E' : Env} {a : AV} {v : Value} (h : V E a v) (hh : E.le E') : V E' a v := V_mono _ _ a v hh h
theorem VL.mono {E E' : Env} {a : List AV} {v : List Value} (h : VL E a v) (hh : E.le E') : VL E' a v := VL_mono _ _ a v hh h

/-! what is owned is told otherwise: one traversal for all that -/
structure Tr where
  own : Nat → Nat → AV
  op : Nat → Nat → AV
  orp : Nat → Nat → Nat → Nat → AV
  sub : Nat → Nat → Nat → Nat → Nat → Bool → AV := fun _ _ _ _ _ _ => .junk
  nils : AV
mutual
def tr (T : Tr) : AV → AV
  | .int k n => .int k n
  | .bool b => .bool b
  | .str s => .str s
  | .agg cs => .agg (trL T cs)
  | .tup cs => .tup (trL T cs)
  | .fn f cs => .fn f (trL T cs)
  | .nilfn => .nilfn
  | .lst n rows => .lst n rows
  | .nils => T.nils
  | .own id n => T.own id n
  | .fp cs off => .fp cs off
  | .op id off => T.op id off
  | .orp id k j off => T.orp id k j off
  | .sub id k lo n C w => T.sub id k lo n C w
  | .nilp => .nilp
  | .junk => .junk
  | .undef => .undef
  | .sval a n c => .sval a n c
def trL (T : Tr) : List AV → List AV
  | [] => []
  | a :: al => tr T a :: trL T al
end
theorem trL_length (T : Tr) : ∀ al : List AV, (trL T al).length = al.length
  | [] => rfl
  | a :: al => by simp [trL, trL_length T al]
structure TrOk (T : Tr) (E E' : Env) : Prop where
  H : Hp.le E.H E'.H
  own : ∀ id n v, V E (.own id n) v → V E' (T.own id n) v
  op : ∀ id off v, V E (.op id off) v → V E' (T.op id off) v
  orp : ∀ id k j off v, V E (.orp id k j off) v → V E' (T.orp id k j off) v
  sub : ∀ id k lo n C w v, V E (.sub id k lo n C w) v → V E' (T.sub id k lo n C w) v
  nils : ∀ v, V E .nils v → V E' T.nils v
mutual
theorem V_tr {T : Tr} {E E' : Env} (ok : TrOk T E E') : ∀ (a : AV) (v : Value), V E a v → V E' (tr T a) v
  | .int _ _, v, h => by simpa only [V, tr] using h
  | .bool _, v, h => by simpa only [V, tr] using h
  | .str _, v, h => by simpa only [V, tr] using h
  | .agg cs, v, h => by simp only [V, tr] at h ⊢; obtain ⟨us, h1, h2⟩ := h; exact ⟨us, h1, VL_tr ok cs us h2⟩
  | .tup cs, v, h => by simp only [V, tr] at h ⊢; obtain ⟨us, h1, h2⟩ := h; exact ⟨us, h1, VL_tr ok cs us h2⟩
  | .fn f cs, v, h => by simp only [V, tr] at h ⊢; obtain ⟨us, h1, h2⟩ := h; exact ⟨us, h1, VL_tr ok cs us h2⟩
  | .nilfn, v, h => by simpa only [V, tr] using h
  | .lst n rows, v, h => by simp only [V, tr] at h ⊢; obtain ⟨a, c, k, h1, h2, h3, h4, h5⟩ := h; exact ⟨a, c, k, h1, h2, h3, h4, VR_mono _ _ a k 0 rows (Env.le.fz ok.H) h5⟩
  | .nils, v, h => by simp only [tr]; exact ok.nils v h
  | .fp cs off, v, h => by simp only [V, tr] at h ⊢; obtain ⟨A, us, h1, h2, h3⟩ := h; exact ⟨A, us, h1, h2.mono ok.H, VL_mono _ _ cs us (Env.le.fz ok.H) h3⟩
  | .nilp, v, h => by simpa only [V, tr] using h
  | .junk, v, h => by simp only [V, tr]
  | .undef, v, h => by simpa only [V, tr] using h
  | .sval _ _ _, v, h => by simpa only [V, tr] using h
  | .own id n, v, h => by simp only [tr]; exact ok.own id n v h
  | .op id off, v, h => by simp only [tr]; exact ok.op id off v h
  | .orp id k j off, v, h => by simp only [tr]; exact ok.orp id k j off v h
  | .sub id k lo n C w, v, h => by simp only [tr]; exact ok.sub id k lo n C w v h
theorem VL_tr {T : Tr} {E E' : Env} (ok : TrOk T E E') : ∀ (al : List AV) (us : List Value), VL E al us → VL E' (trL T al) us
  | [], us, h => by simpa only [VL, trL] using h
  | a :: al, us, h => by simp only [VL, trL] at h ⊢; obtain ⟨u, us', h1, h2, h3⟩ := h; exact ⟨u, us', h1, V_tr ok a u h2, VL_tr ok al us' h3⟩
end

/-! pieces of memory -/
def VLL (E : Env) : List (List AV) → List (List Value) → Prop
  | [], rs => rs = []
  | r :: rows, rs => ∃ us rs', rs = us :: rs' ∧ VL E r us ∧ VLL E rows rs'
theorem VLL_len {E : Env} : ∀ {rows : List (List AV)} {rs : List (List Value)}, VLL E rows rs → rs.length = rows.length
  | [], rs, h => by simp only [VLL] at h; subst h; rfl
  | r :: rows, rs, h => by simp only [VLL] at h; obtain ⟨us, rs', rfl, _, h2⟩ := h; simp [VLL_len h2]
theorem VLL_mono {E E' : Env} (hh : E.le E') : ∀ {rows : List (List AV)} {rs : List (List Value)}, VLL E rows rs → VLL E' rows rs
  | [], rs, h => by simpa only [VLL] using h
  | r :: rows, rs, h => by simp only [VLL] at h ⊢; obtain ⟨us, rs', h1, h2, h3⟩ := h; exact ⟨us, rs', h1, h2.mono hh, VLL_mono hh h3⟩
theorem VLL_get {E : Env} : ∀ {rows : List (List AV)} {rs : List (List Value)}, VLL E rows rs → ∀ {i : Nat} {r : List AV}, rows[i]? = some r → ∃ us, rs[i]? = some us ∧ VL E r us
  | [], rs, h, i, r, hr => by simp at hr
  | b :: rows, rs, h, 0, r, hr => by simp only [VLL] at h; obtain ⟨us, rs', rfl, h1, h2⟩ := h; simp at hr; subst hr; exact ⟨us, rfl, h1⟩
  | b :: rows, rs, h, i + 1, r, hr => by simp only [VLL] at h; obtain ⟨us, rs', rfl, h1, h2⟩ := h; simp at hr; simpa using VLL_get h2 hr
theorem VLL_set {E : Env} : ∀ {rows : List (List AV)} {rs : List (List Value)}, VLL E rows rs → ∀ {i : Nat} {r : List AV} {us : List Value}, VL E r us → VLL E (rows.set i r) (rs.set i us)
  | [], rs, h, i, r, us, _ => by simp only [VLL] at h; subst h; simp [VLL]
  | b :: rows, rs, h, 0, r, us, hu => by simp only [VLL] at h; obtain ⟨us0, rs', rfl, h1, h2⟩ := h; simp only [List.set_cons_zero, VLL]; exact ⟨us, rs', rfl, hu, h2⟩
  | b :: rows, rs, h, i + 1, r, us, hu => by simp only [VLL] at h; obtain ⟨us0, rs', rfl, h1, h2⟩ := h; simp only [List.set_cons_succ, VLL]; exact ⟨us0, _, rfl, h1, VLL_set h2 hu⟩
theorem VLL_append {E : Env} : ∀ {r1 r2 : List (List AV)} {s1 s2 : List (List Value)}, VLL E r1 s1 → VLL E r2 s2 → VLL E (r1 ++ r2) (s1 ++ s2)
  | [], r2, s1, s2, h, h' => by simp only [VLL] at h; subst h; simpa using h'
  | r :: r1, r2, s1, s2, h, h' => by simp only [VLL] at h; obtain ⟨us, rs', rfl, h1, h2⟩ := h; simp only [List.cons_append, VLL]; exact ⟨us, _, rfl, h1, VLL_append h2 h'⟩
theorem VLL_take {E : Env} : ∀ {rows : List (List AV)} {rs : List (List Value)}, VLL E rows rs → ∀ (i : Nat), VLL E (rows.take i) (rs.take i)
  | rows, rs, h, 0 => by simp [VLL]
  | [], rs, h, i + 1 => by simp only [VLL] at h; subst h; simp [VLL]
  | b :: rows, rs, h, i + 1 => by simp only [VLL] at h; obtain ⟨us0, rs', rfl, h1, h2⟩ := h; simp only [List.take_succ_cons, VLL]; exact ⟨us0, _, rfl, h1, VLL_take h2 i⟩
def AP.id : AP → Nat
  | .blk id _ _ => id
  | .row id _ _ _ => id
  | .bag id _ => id
def VP (E : Env) : AP → Piece → Prop
  | .blk id cs T, p => id < E.nx ∧ ∃ us, p = .blk (E.m id) us T ∧ VL E cs us
  | .row id El k rows, p => id < E.nx ∧ (∃ a c, E.g id = .slice a rows.length c) ∧ ∃ rs, p = .row (E.g id) El k rs ∧ VLL (Env.fz E.H) rows rs
  | .bag id rs, p => id < E.nx ∧ p = .bag rs
def VH (E : Env) : List AP → List Piece → Prop
  | [], L => L = []
  | p :: h, L => ∃ q L', L = q :: L' ∧ VP E p q ∧ VH E h L'
theorem VP_mono {E E' : Env} (hh : E.le E') : ∀ {p : AP} {q : Piece}, VP E p q → VP E' p q
  | .blk id cs T, q, h => by
    simp only [VP] at h ⊢; obtain ⟨h1, us, h2, h3⟩ := h
    exact ⟨Nat.lt_of_lt_of_le h1 hh.nx, us, by rw [hh.m id h1]; exact h2, h3.mono hh⟩
  | .row id El k rows, q, h => by
    simp only [VP] at h ⊢; obtain ⟨h1, h0, rs, h2, h3⟩ := h
    exact ⟨Nat.lt_of_lt_of_le h1 hh.nx, by rw [hh.g id h1]; exact h0, rs, by rw [hh.g id h1]; exact h2, VLL_mono (Env.le.fz hh.H) h3⟩
  | .bag id rs, q, h => by
    simp only [VP] at h ⊢
    exact ⟨Nat.lt_of_lt_of_le h.1 hh.nx, h.2⟩
theorem VH_mono {E E' : Env} (hh : E.le E') : ∀ {h : List AP} {L : List Piece}, VH E h L → VH E' h L
  | [], L, h => by simpa only [VH] using h
  | p :: h, L, hl => by simp only [VH] at hl ⊢; obtain ⟨q, L', h1, h2, h3⟩ := hl; exact ⟨q, L', h1, VP_mono hh h2, VH_mono hh h3⟩
theorem VH_append {E : Env} : ∀ {h h' : List AP} {L L' : List Piece}, VH E h L → VH E h' L' → VH E (h ++ h') (L ++ L')
  | [], h', L, L', hl, hl' => by simp only [VH] at hl; subst hl; simpa using hl'
  | p :: h, h', L, L', hl, hl' => by simp only [VH] at hl; obtain ⟨q, L1, rfl, h2, h3⟩ := hl; simp only [List.cons_append, VH]; exact ⟨q, _, rfl, h2, VH_append h3 hl'⟩
theorem VH_split {E : Env} : ∀ {h h' : List AP} {L : List Piece}, VH E (h ++ h') L → ∃ L1 L2, L = L1 ++ L2 ∧ VH E h L1 ∧ VH E h' L2
  | [], h', L, hl => ⟨[], L, rfl, by simp [VH], hl⟩
  | p :: h, h', L, hl => by
    simp only [List.cons_append, VH] at hl
    obtain ⟨q, L1, rfl, h2, h3⟩ := hl
    obtain ⟨La, Lb, rfl, h4, h5⟩ := VH_split h3
    exact ⟨q :: La, Lb, rfl, by simp only [VH]; exact ⟨q, La, rfl, h2, h4⟩, h5⟩
/-- the piece with a number -/
def pos (id : Nat) : List AP → Option (Nat × AP)
  | [] => none
  | p :: h => bif Nat.beq p.id id then some (0, p) else match pos id h with | some (i, q) => some (i + 1, q) | none => none
theorem pos_spec {E : Env} {id : Nat} : ∀ {h : List AP} {L : List Piece}, VH E h L → ∀ {i : Nat} {p : AP}, pos id h = some (i, p) → p.id = id ∧ h[i]? = some p ∧ ∃ q, L[i]? = some q ∧ VP E p q
  | [], L, _, i, p, hp => by simp [pos] at hp
  | p0 :: h, L, hl, i, p, hp => by
    simp only [VH] at hl
    obtain ⟨q, L', rfl, h2, h3⟩ := hl
    rw [pos] at hp
    cases hb : Nat.beq p0.id id with
    | true =>
      rw [hb, cond_true] at hp
      cases hp
      exact ⟨Nat.eq_of_beq_eq_true hb, rfl, q, rfl, h2⟩
    | false =>
      rw [hb, cond_false] at hp
      cases hq : pos id h with
      | none => rw [hq] at hp; cases hp
      | some x =>
        obtain ⟨i', p'⟩ := x
        rw [hq] at hp
        cases hp
        obtain ⟨h4, h5, q', h6, h7⟩ := pos_spec h3 hq
        exact ⟨h4, by simpa using h5, q', by simpa using h6, h7⟩
theorem VH_set {E : Env} {p : AP} {q : Piece} (hp : VP E p q) : ∀ {h : List AP} {L : List Piece}, VH E h L → ∀ (i : Nat), VH E (h.set i p) (L.set i q)
  | [], L, hl, i => by simp only [VH] at hl; subst hl; simp [VH]
  | p0 :: h, L, hl, 0 => by simp only [VH] at hl; obtain ⟨q0, L', rfl, h2, h3⟩ := hl; simp only [List.set_cons_zero, VH]; exact ⟨q, L', rfl, hp, h3⟩
  | p0 :: h, L, hl, i + 1 => by simp only [VH] at hl; obtain ⟨q0, L', rfl, h2, h3⟩ := hl; simp only [List.set_cons_succ, VH]; exact ⟨q0, _, rfl, h2, VH_set hp h3 i⟩

/-! some pieces, and the rest -/
def take1 (i : Nat) : List AP → Option (AP × List AP)
  | [] => none
  | p :: h => bif Nat.beq p.id i then some (p, h) else match take1 i h with | some (q, r) => some (q, p :: r) | none => none
def pickA : List Nat → List AP → List AP
  | [], _ => []
  | j :: js, h => match take1 j h with | some (p, h') => p :: pickA js h' | none => pickA js h
def pickR : List Nat → List AP → List AP
  | [], h => h
  | j :: js, h => match take1 j h with | some (_, h') => pickR js h' | none => pickR js h
theorem take1_spec {E : Env} {i : Nat} : ∀ {h : List AP} {L : List Piece}, VH E h L → ∀ {p : AP} {r : List AP}, take1 i h = some (p, r) → p.id = i ∧ ∃ q L', VP E p q ∧ VH E r L' ∧ L.Perm (q :: L')
  | [], L, _, p, r, hp => by simp [take1] at hp
  | p0 :: h, L, hl, p, r, hp => by
    simp only [VH] at hl
    obtain ⟨q, L', rfl, h2, h3⟩ := hl
    rw [take1] at hp
    cases hb : Nat.beq p0.id i with
    | true =>
      rw [hb, cond_true] at hp
      cases hp
      exact ⟨Nat.eq_of_beq_eq_true hb, q, L', h2, h3, List.Perm.refl _⟩
    | false =>
      rw [hb, cond_false] at hp
      cases hq : take1 i h with
      | none => rw [hq] at hp; cases hp
      | some x =>
        obtain ⟨p', r'⟩ := x
        rw [hq] at hp
        cases hp
        obtain ⟨h4, q', L1, h5, h6, h7⟩ := take1_spec h3 hq
        exact ⟨h4, q', q :: L1, h5, by simp only [VH]; exact ⟨q, L1, rfl, h2, h6⟩, (h7.cons q).trans (List.Perm.swap ..)⟩
theorem pick_spec {E : Env} : ∀ (js : List Nat) {h : List AP} {L : List Piece}, VH E h L → ∃ L1 L2, VH E (pickA js h) L1 ∧ VH E (pickR js h) L2 ∧ L.Perm (L1 ++ L2) ∧ ∀ p ∈ pickA js h, p.id ∈ js
  | [], h, L, hl => ⟨[], L, by simp [pickA, VH], hl, List.Perm.refl _, by simp [pickA]⟩
  | j :: js, h, L, hl => by
    simp only [pickA, pickR]
    cases ht : take1 j h with
    | none =>
      obtain ⟨L1, L2, h1, h2, h3, h4⟩ := pick_spec js hl
      exact ⟨L1, L2, h1, h2, h3, fun p hp => List.mem_cons_of_mem _ (h4 p hp)⟩
    | some x =>
      obtain ⟨p, r⟩ := x
      obtain ⟨h5, q, L', h6, h7, h8⟩ := take1_spec hl ht
      obtain ⟨L1, L2, h1, h2, h3, h4⟩ := pick_spec js h7
      refine ⟨q :: L1, L2, by simp only [VH]; exact ⟨q, L1, rfl, h6, h1⟩, h2, h8.trans ?_, fun p' hp => ?_⟩
      · simpa using h3.cons q
      · rcases List.mem_cons.1 hp with rfl | hp
        · rw [h5]; exact List.mem_cons_self ..
        · exact List.mem_cons_of_mem _ (h4 p' hp)

/-! other numbers -/
def idx : List Nat → Nat → Option Nat
  | [], _ => none
  | j :: js, i => bif Nat.beq j i then some 0 else match idx js i with | some p => some (p + 1) | none => none
theorem idx_spec : ∀ {js : List Nat} {i p : Nat}, idx js i = some p → js[p]? = some i
  | [], i, p, h => by simp [idx] at h
  | j :: js, i, p, h => by
    rw [idx] at h
    cases hb : Nat.beq j i with
    | true => rw [hb, cond_true] at h; cases h; rw [Nat.eq_of_beq_eq_true hb]; rfl
    | false =>
      rw [hb, cond_false] at h
      cases hq : idx js i with
      | none => rw [hq] at h; cases h
      | some p' => rw [hq] at h; cases h; simpa using idx_spec hq
theorem idx_mem : ∀ {js : List Nat} {i : Nat}, i ∈ js → ∃ p, idx js i = some p
  | j :: js, i, h => by
    rw [idx]
    cases hb : Nat.beq j i with
    | true => exact ⟨0, rfl⟩
    | false =>
      have hne : i ≠ j := fun e => by rw [e, Nat.beq_refl] at hb; cases hb
      obtain ⟨p, hp⟩ := idx_mem ((List.mem_cons.1 h).resolve_left hne)
      exact ⟨p + 1, by rw [cond_false, hp]⟩
def renT (ρ : Nat → Option Nat) : Tr where
  own id n := match ρ id with | some i => .own i n | none => .junk
  op id off := match ρ id with | some i => .op i off | none => .junk
  orp id k j off := match ρ id with | some i => .orp i k j off | none => .junk
  sub id k lo n C w := match ρ id with | some i => .sub i k lo n C w | none => .junk
  nils := .nils
structure RenOk (ρ : Nat → Option Nat) (E E' : Env) : Prop where
  H : Hp.le E.H E'.H
  ok : ∀ i i', ρ i = some i' → i < E.nx → i' < E'.nx ∧ E'.m i' = E.m i ∧ E'.g i' = E.g i
theorem renT_ok {ρ : Nat → Option Nat} {E E' : Env} (h : RenOk ρ E E') : TrOk (renT ρ) E E' where
  H := h.H
  own id n v hv := by
    simp only [V] at hv
    obtain ⟨h1, h2, h3⟩ := hv
    simp only [renT]
    cases hr : ρ id with
    | none => simp only [V]
    | some i =>
      obtain ⟨h4, h5, h6⟩ := h.ok id i hr h1
      simp only [V]
      exact ⟨h4, h2.trans h6.symm, h3⟩
  op id off v hv := by
    simp only [V] at hv
    obtain ⟨h1, h2⟩ := hv
    simp only [renT]
    cases hr : ρ id with
    | none => simp only [V]
    | some i =>
      obtain ⟨h4, h5, h6⟩ := h.ok id i hr h1
      simp only [V]
      exact ⟨h4, by rw [h5]; exact h2⟩
  orp id k j off v hv := by
    simp only [V] at hv
    obtain ⟨h1, b, n, c, h2, h3⟩ := hv
    simp only [renT]
    cases hr : ρ id with
    | none => simp only [V]
    | some i =>
      obtain ⟨h4, h5, h6⟩ := h.ok id i hr h1
      simp only [V]
      exact ⟨h4, b, n, c, h6.trans h2, h3⟩
  sub id k lo n C w v hv := by
    simp only [V] at hv
    obtain ⟨h1, b, N, a, h2, h3, h7, h8, h9⟩ := hv
    simp only [renT]
    cases hr : ρ id with
    | none => simp only [V]
    | some i =>
      obtain ⟨h4, h5, h6⟩ := h.ok id i hr h1
      simp only [V]
      exact ⟨h4, b, N, a, h6.trans h2, h3, h7, h8, fun hw => by rw [h6]; exact h9 hw⟩
  nils v hv := by simpa only [V, renT] using hv
def renP (ρ : Nat → Option Nat) : AP → AP
  | .blk id cs T => .blk ((ρ id).getD 0) (trL (renT ρ) cs) T
  | .row id E k rows => .row ((ρ id).getD 0) E k rows
  | .bag id rs => .bag ((ρ id).getD 0) rs
theorem VH_ren {ρ : Nat → Option Nat} {E E' : Env} (ok : RenOk ρ E E') : ∀ {h : List AP} {L : List Piece}, (∀ p ∈ h, ∃ i, ρ p.id = some i) → VH E h L → VH E' (h.map (renP ρ)) L
  | [], L, _, hl => by simpa only [VH, List.map_nil] using hl
  | p :: h, L, hp, hl => by
    simp only [VH] at hl
    obtain ⟨q, L', rfl, h2, h3⟩ := hl
    simp only [List.map_cons, VH]
    refine ⟨q, L', rfl, ?_, VH_ren ok (fun p' h' => hp p' (List.mem_cons_of_mem _ h')) h3⟩
    obtain ⟨i, hi⟩ := hp p (List.mem_cons_self ..)
    cases p with
    | blk id cs T =>
      simp only [VP] at h2
      obtain ⟨h1, us, h4, h5⟩ := h2
      obtain ⟨h6, h7, h8⟩ := ok.ok id i hi h1
      simp only [AP.id] at hi
      simp only [renP, hi, Option.getD_some, VP]
      exact ⟨h6, us, by rw [h7]; exact h4, VL_tr (renT_ok ok) cs us h5⟩
    | row id El k rows =>
      simp only [VP] at h2
      obtain ⟨h1, h0, rs, h4, h5⟩ := h2
      obtain ⟨h6, h7, h8⟩ := ok.ok id i hi h1
      simp only [AP.id] at hi
      simp only [renP, hi, Option.getD_some, VP]
      exact ⟨h6, by rw [h8]; exact h0, rs, by rw [h8]; exact h4, VLL_mono (Env.le.fz ok.H) h5⟩
    | bag id rs =>
      simp only [VP] at h2
      obtain ⟨h6, h7, h8⟩ := ok.ok id i hi h2.1
      simp only [AP.id] at hi
      simp only [renP, hi, Option.getD_some, VP]
      exact ⟨h6, h2.2⟩
def Env.sel (E : Env) (js : List Nat) : Env := ⟨E.H, fun i => E.m (js.getD i 0), fun i => E.g (js.getD i 0), js.length⟩
theorem sel_ok (E : Env) (js : List Nat) : RenOk (idx js) E (E.sel js) where
  H := Hp.le.refl _
  ok i i' h _ := by
    have h1 := idx_spec h
    have h2 := (List.getElem?_eq_some_iff.1 h1).1
    have h3 : js.getD i' 0 = i := by simp [h1]
    exact ⟨h2, by simp only [Env.sel, h3], by simp only [Env.sel, h3]⟩
/- the numbers met, in order -/
mutual
def idsA : AV → List Nat
  | .agg cs => idsL cs
  | .tup cs => idsL cs
  | .fn _ cs => idsL cs
  | .own id _ => [id]
  | .op id _ => [id]
  | .orp id _ _ _ => [id]
  | .sub id _ _ _ _ _ => [id]
  | .int _ _ => []
  | .bool _ => []
  | .str _ => []
  | .nilfn => []
  | .lst _ _ => []
  | .nils => []
  | .fp _ _ => []
  | .nilp => []
  | .junk => []
  | .undef => []
  | .sval _ _ _ => []
def idsL : List AV → List Nat
  | [] => []
  | a :: al => idsA a ++ idsL al
end
def hasN : List Nat → Nat → Bool
  | [], _ => false
  | j :: js, i => bif Nat.beq j i then true else hasN js i
def addN (acc : List Nat) : List Nat → List Nat
  | [] => acc
  | i :: r => match hasN acc i with
    | true => addN acc r
    | false => addN (acc ++ [i]) r
/-- a list worked out once -/
def forceN : List Nat → (List Nat → List Nat) → List Nat
  | [], k => k []
  | i :: l, k => forceN l fun l => k (i :: l)
theorem forceN_eq : ∀ (l : List Nat) (k : List Nat → List Nat), forceN l k = k l
  | [], k => rfl
  | i :: l, k => by rw [forceN, forceN_eq l]
def cellIds (h : List AP) : List Nat → List Nat
  | [] => []
  | i :: r => (match pos i h with | some (_, .blk _ cs _) => idsL cs | _ => []) ++ cellIds h r
def rng : Nat → Nat → List Nat
  | _, 0 => []
  | i, n + 1 => i :: rng (i + 1) n
/-- the numbers in use: those that were handed in, those in some values, those in the blocks that these name -/
def canon (base : Nat) (vs : List AV) (h : List AP) : List Nat :=
  forceN (addN (rng 0 base) (idsL vs)) fun a => forceN (addN a (cellIds h a)) fun b => addN b (cellIds h b)
theorem addN_pre : ∀ (r acc : List Nat), ∃ t, addN acc r = acc ++ t
  | [], acc => ⟨[], by simp [addN]⟩
  | i :: r, acc => by
    rw [addN]
    cases hasN acc i with
    | true => exact addN_pre r acc
    | false =>
      obtain ⟨t, ht⟩ := addN_pre r (acc ++ [i])
      exact ⟨i :: t, by show addN (acc ++ [i]) r = _; rw [ht]; simp⟩
theorem rng_get : ∀ (n i j : Nat), j < n → (rng i n)[j]? = some (i + j)
  | 0, i, j, h => absurd h (Nat.not_lt_zero j)
  | n + 1, i, 0, h => rfl
  | n + 1, i, j + 1, h => by
    have := rng_get n (i + 1) j (by omega)
    simp only [rng, List.getElem?_cons_succ, this]
    rw [show i + 1 + j = i + (j + 1) by omega]
theorem rng_len : ∀ (n i : Nat), (rng i n).length = n
  | 0, _ => rfl
  | n + 1, i => by simp [rng, rng_len n]
theorem canon_base (base : Nat) (vs : List AV) (h : List AP) : base ≤ (canon base vs h).length ∧ ∀ i, i < base → (canon base vs h).getD i 0 = i := by
  have : ∃ t, canon base vs h = rng 0 base ++ t := by
    unfold canon
    simp only [forceN_eq]
    obtain ⟨t1, h1⟩ := addN_pre (idsL vs) (rng 0 base)
    simp only [h1]
    obtain ⟨t2, h2⟩ := addN_pre (cellIds h (rng 0 base ++ t1)) (rng 0 base ++ t1)
    simp only [h2]
    obtain ⟨t3, h3⟩ := addN_pre (cellIds h (rng 0 base ++ t1 ++ t2)) (rng 0 base ++ t1 ++ t2)
    exact ⟨t1 ++ (t2 ++ t3), by rw [h3]; simp⟩
  obtain ⟨t, ht⟩ := this
  rw [ht]
  refine ⟨by simp [rng_len], fun i hi => ?_⟩
  rw [List.getD_eq_getElem?_getD, List.getElem?_append_left (by rw [rng_len]; exact hi), rng_get base 0 i hi]
  simp
end Go.Proofs.YtlghgdgpbnlpmaaGreat
