/- What is proved: what operations on parts of own slices do over abstract values. Conditions: none. -/
import Derived.Test.YtlghgdgpbnlpmaaGreatAb
import Derived.Test.YtlghgdgpbnlpmaaGreatVw
namespace Go.Proofs.YtlghgdgpbnlpmaaGreat
open Go.RowKit

def isSub : AV → Bool
  | .sub _ _ _ _ _ _ => true
  | _ => false
/-- is that an operation on a part of an own slice? -/
def viewOp (ty : Nat → TyI) (s : AS) : Op → Bool
  | .call { callee := .builtin .copy, .. } => true
  | .call { callee := .builtin .clear, .. } => true
  | .call { callee := .builtin .append, args := xs, .. } => match xs.toList with
    | x :: _ => isSub (evA s x)
    | _ => false
  | .slice _ x _ _ none => isSub (evA s x)
  | .call { callee := .value _, args := xs, .. } => match xs.toList with
    | [x, y] => (match evA s x with
      | .own _ _ => isSub (evA s y)
      | _ => false)
    | _ => false
  | .store T x _ => match evA s x with
    | .orp _ _ _ _ => match Nat.beq (ty T).k 1, (ty T).agg with
      | true, false => false
      | _, _ => true
    | _ => false
  | _ => false
/-- a part of an own slice: its number, its place among the pieces, its first element, how many, all rows -/
def dstP (h : List AP) (El kk : Nat) : AV → Option (Nat × Nat × Nat × Nat × List (List AV))
  | .sub id k0 lo n _ _ => match pos id h with
    | some (i, .row _ El' k' rows) => bif Nat.beq El El' && (Nat.beq kk k' && Nat.beq kk k0) then some (id, i, lo, n, rows) else none
    | _ => none
  | .own id n => match pos id h with
    | some (i, .row _ El' k' rows) => bif Nat.beq El El' && Nat.beq kk k' then some (id, i, 0, n, rows) else none
    | _ => none
  | _ => none
def srcB (h : List AP) (kk : Nat) : AV → Option (Nat × List (List AV) × Prop)
  | .sub id k0 lo n _ _ => match pos id h with
    | some (_, .row _ _ k' rows) => bif Nat.beq kk k' && Nat.beq kk k0 then some (n, (rows.drop lo).take n, lo + n ≤ rows.length) else none
    | _ => none
  | a => match srcA h kk a with
    | some (n, rows) => some (n, rows, RowsOk kk rows)
    | none => none
structure VCy (n n' lo N : Nat) (ok : Prop) (ro : Nat → Prop) (k : Nat → Prop) : Prop where
  ex : ∃ m, ok ∧ 0 < N ∧ m ≤ n ∧ m ≤ n' ∧ (m = n ∨ m = n') ∧ lo + m ≤ N ∧ ro m ∧ k m
structure VCl (n lo N : Nat) (k : Prop) : Prop where
  ok : lo + n ≤ N ∨ N ≤ lo
  k : k
structure VAg (i : Int) (n lo N C : Nat) (k : Nat → Prop) : Prop where
  ex : ∃ m : Nat, i = (m : Int) ∧ lo = 0 ∧ 0 < m ∧ n ≤ N ∧ C < n + m ∧ n + m ≤ 2147483648 ∧ k m
structure VAi (n n' lo N C : Nat) (ok : Prop) (k : Prop) : Prop where
  ex : ok ∧ lo = 0 ∧ 0 < N ∧ n + n' ≤ N ∧ (N ≤ C → k)
/-- what 'overlaps' answers of two slices in two blocks -/
def OvF (P : Program) (f : FuncId) : Prop := ∀ (w : World) (a b ob la ca lb cb : Nat) (E1 E2 : TypeId) (c1 c2 : Array Value), a ≠ b → w.heap[a]? = some (.cells c1 E1 (0, 0)) → w.heap[b]? = some (.cells c2 E2 (0, 0)) → 0 < c2.size →
  (callFunc f #[.slice (some ⟨a, 0, none⟩) la ca, .slice (some ⟨b, ob, none⟩) lb cb]).run P w = .ok (.value (.bool false)) w
def ovOk (h : List AP) (id id' : Nat) : Bool :=
  match pos id h, pos id' h with
  | some (_, .row _ _ _ _), some (_, .row _ _ k' _) => !Nat.beq id id' && Nat.ble 1 k'
  | _, _ => false
structure VOv (P : Program) (f : FuncId) (n lo C : Nat) (ok : Bool) (k : Prop) : Prop where
  ov : OvF P f
  pos : 0 < n
  lt : lo < C
  ok : ok = true
  k : k
structure VSx (lo hi : Option Int) (n C : Nat) (w : Bool) (k : Nat → Prop) : Prop where
  ex : ∃ h : Nat, w = true ∧ lo.getD 0 = 0 ∧ hi.getD n = (h : Int) ∧ n ≤ h ∧ h ≤ C ∧ k h
def wq (P : Program) (ty : Nat → TyI) (s : AS) (k : AV → AS → Prop) : Op → Prop
  | .call { callee := .builtin .copy, args := xs, argTypes := ts } => match xs.toList, ts.toList with
    | [x, y], [t, _] => (match (ty t).el with
      | some (El, kk, _) => (match dstP s.h El kk (evA s x), srcB s.h kk (evA s y) with
        | some (id, i, lo, n, rows), some (n', rows', ok) => VCy n n' lo rows.length ok (fun m => RowsOk kk (rows'.take m)) fun m => k (.int .i64 (m : Int)) ⟨s.F, s.h.set i (.row id El kk (rows.take lo ++ rows'.take m ++ rows.drop (lo + m))), s.nx⟩
        | _, _ => False)
      | none => False)
    | _, _ => False
  | .call { callee := .builtin .clear, args := xs, argTypes := ts } => match xs.toList, ts.toList with
    | [x], [t] => (match (ty t).el with
      | some (El, kk, _) => (match dstP s.h El kk (evA s x), isSub (evA s x), (ty El).z with
        | some (id, i, lo, n, rows), true, some zs => (match zs.all Value.oneCell' with
          | true => VCl n lo rows.length (k .junk ⟨s.F, s.h.set i (.row id El kk (rows.take lo ++ ((rows.drop lo).take n).map (fun _ => List.replicate kk .junk) ++ rows.drop (lo + n))), s.nx⟩)
          | false => False)
        | _, _, _ => False)
      | none => False)
    | _, _ => False
  | .call { callee := .builtin .append, args := xs, argTypes := ts } => match xs.toList, ts.toList with
    | [x, y], [t, t'] => (match (ty t).el with
      | some (El, kk, bt) => (match evA s x, dstP s.h El kk (evA s x), Nat.ble bt 65536 with
        | .sub _ _ _ _ C _, some (_, i, lo, n, rows), true => (match (ty t').it with
          | true => (match evA s y with
            | .int .i64 z => VAg z n lo rows.length C fun m => k (.own s.nx (n + m)) ⟨s.F, .row s.nx El kk (rows.take n ++ List.replicate m (List.replicate kk .junk)) :: s.h, s.nx + 1⟩
            | _ => False)
          | false => (match srcB s.h kk (evA s y), Nat.beq t t' with
            | some (n', rows', ok), true => VAi n n' lo rows.length C (ok ∧ RowsOk kk rows') (k (.sub s.nx kk 0 (n + n') C true) ⟨s.F, s.h.set i (.row s.nx El kk (rows.take n ++ rows')), s.nx + 1⟩)
            | _, _ => False))
        | _, _, _ => False)
      | none => False)
    | _, _ => False
  | .slice T x lo hi none => hq P ty s (fun v => k v s) (.slice T x lo hi none) ∨ (match optI s lo, optI s hi with
    | some lo, some hi => (match (ty T).el with
      | some (El, kk, _) => (match evA s x, dstP s.h El kk (evA s x) with
        | .sub _ _ _ n C w, some (_, i, _, _, rows) => VSx lo hi n C w fun hh => k (.sub s.nx kk 0 hh C true) ⟨s.F, s.h.set i (.row s.nx El kk (rows ++ List.replicate (hh - n) (List.replicate kk .junk))), s.nx + 1⟩
        | _, _ => False)
      | none => False)
    | _, _ => False)
  | .call { callee := .value g, args := xs, argTypes := _ } => match xs.toList with
    | [x, y] => (match evA s g, evA s x, evA s y with
      | .fn f [], .own id n, .sub id' _ lo _ C _ => VOv P f n lo C (ovOk s.h id id') (k (.bool false) s)
      | _, _, _ => False)
    | _ => False
  | .store T x y => match evA s x with
    | .orp id kk j off => (match pos id s.h with
      | some (i, .row _ El k' rows) => (match Nat.beq kk k' && (solid (evA s y) && ((cellsA (evA s y)).all oneA && (Nat.beq (cellsA (evA s y)).length (ty T).k && (Nat.ble (off + (ty T).k) kk && Nat.ble 1 (ty T).k)))) with
        | true => VRow rows j fun r => fcL (trL jT (cellsA (evA s y))) fun vs => k .junk ⟨s.F, s.h.set i (.row id El k' (rows.set j (spliceA r off vs))), s.nx⟩
        | false => False)
      | _ => False)
    | _ => False
  | _ => False

theorem VLL_drop {E : Env} : ∀ {rows : List (List AV)} {rs : List (List Value)}, VLL E rows rs → ∀ (i : Nat), VLL E (rows.drop i) (rs.drop i)
  | rows, rs, h, 0 => by simpa using h
  | [], rs, h, i + 1 => by simp only [VLL] at h; subst h; simp [VLL]
  | b :: rows, rs, h, i + 1 => by simp only [VLL] at h; obtain ⟨us0, rs', rfl, h1, h2⟩ := h; simp only [List.drop_succ_cons]; exact VLL_drop h2 i
theorem junk_any {E : Env} {k : Nat} : ∀ {n : Nat} {rs : List (List Value)}, rs.length = n → (∀ r ∈ rs, r.length = k) → ∀ {xs : List (List AV)}, xs.length = n → VLL E (xs.map (fun _ => List.replicate k .junk)) rs := by
  intro n rs h1 h2 xs hx
  have : xs.map (fun _ => List.replicate k AV.junk) = List.replicate n (List.replicate k .junk) := by
    rw [List.map_const', hx]
  rw [this]
  exact junk_VLL h1 h2
theorem pos_inj {i : Nat} : ∀ {h : List AP} {id id' : Nat} {p p' : AP}, pos id h = some (i, p) → pos id' h = some (i, p') → id = id' := by
  induction i with
  | zero =>
    intro h id id' p p' h1 h2
    cases h with
    | nil => simp [pos] at h1
    | cons p0 h =>
      rw [pos] at h1 h2
      cases hb : Nat.beq p0.id id with
      | false => rw [hb, cond_false] at h1; split at h1 <;> cases h1
      | true =>
        cases hb' : Nat.beq p0.id id' with
        | false => rw [hb', cond_false] at h2; split at h2 <;> cases h2
        | true => rw [← Nat.eq_of_beq_eq_true hb, Nat.eq_of_beq_eq_true hb']
  | succ i ih =>
    intro h id id' p p' h1 h2
    cases h with
    | nil => simp [pos] at h1
    | cons p0 h =>
      rw [pos] at h1 h2
      cases hb : Nat.beq p0.id id with
      | true => rw [hb, cond_true] at h1; cases h1
      | false =>
        cases hb' : Nat.beq p0.id id' with
        | true => rw [hb', cond_true] at h2; cases h2
        | false =>
          rw [hb, cond_false] at h1
          rw [hb', cond_false] at h2
          split at h1
          · rename_i i1 q1 e1
            cases h1
            split at h2
            · rename_i i2 q2 e2
              cases h2
              exact ih e1 e2
            · cases h2
          · cases h1
section sound
variable {P : Program} {e : Ent} {E : Env} {s : AS} {F : Slots} {L : List Piece}
abbrev POk (E : Env) (F : Slots) (k : AV → AS → Prop) : Value → Hp → List Piece → Prop := fun v' H' L' => ∃ E' s1 v, E'.H = H' ∧ E.le E' ∧ RS E' s1 F L' ∧ V E' v v' ∧ k v s1
theorem dstP_spec {El kk : Nat} {a : AV} {id i lo n : Nat} {rows : List (List AV)} (h : dstP s.h El kk a = some (id, i, lo, n, rows)) (hr : RS E s F L) {u : Value} (hv : V E a u) (h0 : isSub a = true ∨ 0 < rows.length) :
    id < E.nx ∧ ∃ (b C : Nat) (ad : Option Addr) (rs : List (List Value)), E.g id = .slice (some ⟨b, 0, none⟩) rows.length C ∧ L[i]? = some (.row (E.g id) El kk rs) ∧ VLL (Env.fz E.H) rows rs ∧ u = .slice ad n (C - lo) ∧ (lo < C → ad = some ((⟨b, 0, none⟩ : Addr).add (lo * kk))) ∧ lo + n ≤ C ∧ (∀ id0 k0 lo0 n0 C' w, a = .sub id0 k0 lo0 n0 C' w → id = id0 ∧ lo = lo0 ∧ n = n0 ∧ C' = C) := by
  unfold dstP at h
  split at h
  · rename_i id' k0 lo' n' C' w
    split at h
    · rename_i i' id2 El' k' rows' hp
      cases hc : (Nat.beq El El' && (Nat.beq kk k' && Nat.beq kk k0)) with
      | false => rw [hc] at h; cases h
      | true =>
        rw [hc, cond_true] at h
        cases h
        simp only [Bool.and_eq_true] at hc
        have c1 := Nat.eq_of_beq_eq_true hc.1
        have c2 := Nat.eq_of_beq_eq_true hc.2.1
        have c3 := Nat.eq_of_beq_eq_true hc.2.2
        subst c1; subst c2; subst c3
        obtain ⟨hid, hi, q, hq, hvp⟩ := pos_spec hr.h hp
        simp only [AP.id] at hid
        subst hid
        simp only [VP] at hvp
        obtain ⟨hlt, ⟨a', c', hg'⟩, rs, rfl, hrs⟩ := hvp
        simp only [V] at hv
        obtain ⟨_, b, N, ad, hg, hu, h4, h5, _⟩ := hv
        rw [hg] at hg'
        cases hg'
        exact ⟨hlt, b, C', ad, rs, hg, hq, hrs, hu, h5, h4, fun id0 k0 lo0 n0 C w he => by cases he; exact ⟨rfl, rfl, rfl, rfl⟩⟩
    · cases h
  · rename_i id' n'
    split at h
    · rename_i i' id2 El' k' rows' hp
      cases hc : (Nat.beq El El' && Nat.beq kk k') with
      | false => rw [hc] at h; cases h
      | true =>
        rw [hc, cond_true] at h
        cases h
        simp only [Bool.and_eq_true] at hc
        have c1 := Nat.eq_of_beq_eq_true hc.1
        have c2 := Nat.eq_of_beq_eq_true hc.2
        subst c1; subst c2
        obtain ⟨hid, hi, q, hq, hvp⟩ := pos_spec hr.h hp
        simp only [AP.id] at hid
        subst hid
        simp only [VP] at hvp
        obtain ⟨hlt, ⟨a', c', hg'⟩, rs, rfl, hrs⟩ := hvp
        simp only [V] at hv
        obtain ⟨_, hxe, a, c, hu, h4, h5⟩ := hv
        have hg := hxe.symm.trans hu
        rw [hg] at hg'
        cases hg'
        have hpos : 0 < rows.length := by rcases h0 with h0 | h0; cases h0; exact h0
        obtain ⟨b, rfl⟩ := h4 hpos
        exact ⟨hlt, b, c', some ⟨b, 0, none⟩, rs, hg, hq, hrs, hu, fun _ => by simp [Addr.add], by omega, fun id0 k0 lo0 n0 C w he => by cases he⟩
    · cases h
  · cases h
theorem srcB_spec {kk : Nat} {a : AV} {n' : Nat} {rows' : List (List AV)} {ok : Prop} (h : srcB s.h kk a = some (n', rows', ok)) (hok : ok) (hr : RS E s F L) {u : Value} (hv : V E a u) :
    n' = rows'.length ∧ ∃ rs, VLL (Env.fz E.H) rows' rs ∧ (∀ (e : Ent) w, Sees e E.H L w → RSrc E.H L u kk rs) := by
  unfold srcB at h
  split at h
  · rename_i id k0 lo n C w
    split at h
    · rename_i i id2 El' k' rows hp
      cases hc : (Nat.beq kk k' && Nat.beq kk k0) with
      | false => rw [hc] at h; cases h
      | true =>
        rw [hc, cond_true] at h
        cases h
        simp only [Bool.and_eq_true] at hc
        have c1 := Nat.eq_of_beq_eq_true hc.1
        have c2 := Nat.eq_of_beq_eq_true hc.2
        subst c1; subst c2
        obtain ⟨hid, hi, q, hq, hvp⟩ := pos_spec hr.h hp
        simp only [AP.id] at hid
        subst hid
        simp only [VP] at hvp
        obtain ⟨hlt, ⟨a', c', hg'⟩, rs, rfl, hrs⟩ := hvp
        simp only [V] at hv
        obtain ⟨_, b, N, ad, hg, hu, h4, h5, _⟩ := hv
        rw [hg] at hg'
        cases hg'
        rw [hg] at hq
        have hl := VLL_len hrs
        refine ⟨by rw [List.length_take, List.length_drop]; omega, (rs.drop lo).take n', VLL_take (VLL_drop hrs lo) n', fun e w hs => ?_⟩
        obtain ⟨hN, hNC, _, hk, _⟩ := row_open (hs.holds _ (List.mem_of_getElem? hq))
        rw [hu]
        exact rsrc_part hq hk (by omega) (by omega) h5
    · cases h
  · split at h
    · rename_i n rows hs
      cases h
      obtain ⟨h1, rs, h2, h3⟩ := srcA_spec hs hr hv hok
      exact ⟨h1, rs, h2, fun _ _ _ => h3⟩
    · cases h
theorem toL' {α : Type} {a : Array α} {l : List α} (h : a.toList = l) : a = l.toArray := by rw [← h]
theorem wq_copy {ty : Nat → TyI} (ht : ∀ T, TyOk P T (ty T)) {k : AV → AS → Prop} {xs : Array Operand} {ts : Array TypeId} (h : wq P ty s k (.call { callee := .builtin .copy, args := xs, argTypes := ts })) (hr : RS E s F L) :
    Opt P e (.call { callee := .builtin .copy, args := xs, argTypes := ts }) F E.H L (POk E F k) := by
  simp only [wq] at h
  split at h
  · rename_i x y t t' e1 e2
    have e1 := toL' e1
    have e2 := toL' e2
    subst e1; subst e2
    have hx := hr.ev x
    have hy := hr.ev y
    split at h
    · rename_i El kk bt hel
      have := (ht t).el _ _ _ hel
      split at h
      · rename_i id i lo n rows n' rows' ok hd hs'
        obtain ⟨m, hok, hN, hm1, hm2, hm3, hfit, hro, hk⟩ := h.ex
        obtain ⟨hlt, b, C, ad, rs, hg, hL, hrs, hu, ha, hC, _⟩ := dstP_spec hd hr hx (.inr hN)
        obtain ⟨hn', rs', hrs', hsrc⟩ := srcB_spec hs' hok hr hy
        have hl := VLL_len hrs
        have hl' := VLL_len hrs'
        rw [hg] at hL
        have h1 : ∀ v ∈ (rs'.take m).flatten, v.oneCell' = true := fun v hv => by
          obtain ⟨r, hr1, hr2⟩ := List.mem_flatten.1 hv
          exact List.all_eq_true.1 (VLL_all (VLL_take hrs' m) hro r hr1).2 v hr2
        refine ⟨fun ac o w K Q ho hop hs hK => ?_⟩
        have hO := opt_copy (P := P) (e := e) (t := t) (t' := t') (s := x) (x := y) (m := m) i hL hu ha rfl (hsrc e w hs) hm1 (by omega) (by omega) (by omega) h1
        refine hO.run ac o w K Q ho hop hs fun v w' H' L' hs2 ⟨hv, hH, hL'⟩ => hK v w' H' L' hs2 ?_
        subst hH; subst hL'; subst hv
        refine ⟨E, ⟨s.F, s.h.set i (.row id El kk (rows.take lo ++ rows'.take m ++ rows.drop (lo + m))), s.nx⟩, .int .i64 (m : Int), rfl, Env.le.refl E, ⟨hr.f, VH_set ?_ hr.h i, hr.nx⟩, by simp only [V], hk⟩
        simp only [VP]
        have hlen : (rows.take lo ++ rows'.take m ++ rows.drop (lo + m)).length = rows.length := by
          simp only [List.length_append, List.length_take, List.length_drop]; omega
        exact ⟨hlt, ⟨_, _, by rw [hlen]; exact hg⟩, _, by rw [hg], VLL_append (VLL_append (VLL_take hrs lo) (VLL_take hrs' m)) (VLL_drop hrs (lo + m))⟩
      · cases h
    · cases h
  · cases h
theorem wq_clear {ty : Nat → TyI} (ht : ∀ T, TyOk P T (ty T)) {k : AV → AS → Prop} {xs : Array Operand} {ts : Array TypeId} (h : wq P ty s k (.call { callee := .builtin .clear, args := xs, argTypes := ts })) (hr : RS E s F L) :
    Opt P e (.call { callee := .builtin .clear, args := xs, argTypes := ts }) F E.H L (POk E F k) := by
  simp only [wq] at h
  split at h
  · rename_i x t e1 e2
    have e1 := toL' e1
    have e2 := toL' e2
    subst e1; subst e2
    have hx := hr.ev x
    split at h
    · rename_i El kk bt hel
      have hsl := (ht t).el _ _ _ hel
      split at h
      · rename_i id i lo n rows zs hd hsb hz
        split at h
        · rename_i hz1
          obtain ⟨hok, hk⟩ := h
          obtain ⟨hlt, b, C, ad, rs, hg, hL, hrs, hu, ha, hC, _⟩ := dstP_spec hd hr hx (.inl hsb)
          have hl := VLL_len hrs
          rw [hg] at hL
          obtain ⟨z, hzr, hzc⟩ := ((ht El).z zs hz).ex
          have hz' : ∀ i0 z', P.info? El = some i0 → i0.zero = some z' → ∀ c ∈ z'.cells.toList, c.oneCell' = true := fun i0 z' hi0 hz0 c hc => by
            have := hzr e.w
            simp [zeroValue, typeInfo, hi0, hz0] at this
            subst this
            rw [hzc] at hc
            exact List.all_eq_true.1 hz1 c (by simpa using hc)
          refine (opt_clear (P := P) (e := e) (t := t) (x := x) i hL hu ha hC hz').mono ?_
          rintro v H' L' ⟨rs', rfl, rfl, h1, h2⟩
          refine ⟨E, ⟨s.F, s.h.set i (.row id El kk (rows.take lo ++ ((rows.drop lo).take n).map (fun _ => List.replicate kk .junk) ++ rows.drop (lo + n))), s.nx⟩, .junk, rfl, Env.le.refl E, ⟨hr.f, VH_set ?_ hr.h i, hr.nx⟩, by simp only [V], hk⟩
          simp only [VP]
          have hlen : (rows.take lo ++ ((rows.drop lo).take n).map (fun _ => List.replicate kk AV.junk) ++ rows.drop (lo + n)).length = rows.length := by
            simp only [List.length_append, List.length_map, List.length_take, List.length_drop]; omega
          refine ⟨hlt, ⟨_, _, by rw [hlen]; exact hg⟩, rs', by rw [hg], ?_⟩
          rcases hok with hok | hok
          · obtain ⟨Z, hZ, hZk, rfl⟩ := h1 hok
            refine VLL_append (VLL_append (VLL_take hrs lo) (junk_any (n := n) hZ hZk ?_)) (VLL_drop hrs (lo + n))
            rw [List.length_take, List.length_drop]; omega
          · rw [h2 hok]
            have e1 : rows.take lo = rows := List.take_of_length_le hok
            have e2 : rows.drop lo = [] := List.drop_of_length_le hok
            have e3 : rows.drop (lo + n) = [] := List.drop_of_length_le (by omega)
            rw [e1, e2, e3]
            simpa using hrs
        · cases h
      · cases h
    · cases h
  · cases h
theorem wq_store {ty : Nat → TyI} (ht : ∀ T, TyOk P T (ty T)) {k : AV → AS → Prop} {T : TypeId} {x y : Operand} (h : wq P ty s k (.store T x y)) (hr : RS E s F L) :
    Opt P e (.store T x y) F E.H L (POk E F k) := by
  simp only [wq] at h
  have hx := hr.ev x
  have hy := hr.ev y
  split at h
  · rename_i id kk j off hb
    rw [hb] at hx
    split at h
    · rename_i i id' El k' rows hp
      split at h
      · rename_i hc
        simp only [Bool.and_eq_true] at hc
        obtain ⟨c1, h1, h2, h3, h4, h5⟩ := hc
        have c1 := Nat.eq_of_beq_eq_true c1
        subst c1
        obtain ⟨r, hrj, h⟩ := h.ex
        have h := fcL_self h
        obtain ⟨us, hv, hus⟩ := solid_cells hy h1
        obtain ⟨hid, hi, q, hq, hvp⟩ := pos_spec hr.h hp
        simp only [AP.id] at hid
        subst hid
        simp only [VP] at hvp
        obtain ⟨hlt, hgl, rs, rfl, hrs⟩ := hvp
        simp only [V] at hx
        obtain ⟨_, b, n, c, hg, hx⟩ := hx
        obtain ⟨vs, hvs, hvl⟩ := VLL_get hrs hrj
        have hlen : us.length = (ty T).k := by rw [VL_len hus]; exact Nat.eq_of_beq_eq_true h3
        have hk : ∀ w, (sizeOf T).run P w = .ok (ty T).k w := by
          intro w
          cases hg : (ty T).agg with
          | true => exact ((ht T).ag hg).hk w
          | false =>
            by_cases h1k : (ty T).k = 1
            · rw [h1k]; exact ((ht T).one hg h1k).hk w
            · have := (ht T).sz hg h1k
              have := Nat.le_of_ble_eq_true h5
              omega
        rw [hg] at hq
        refine (opt_stoA (P := P) (e := e) (T := T) i hk hx hq hvs rfl hv hlen (oneA_all hus h2) (Nat.le_of_ble_eq_true h4)).mono ?_
        rintro v' H' L' ⟨rfl, rfl⟩
        refine ⟨E, ⟨s.F, s.h.set i (.row id' El kk (rows.set j (spliceA r off (trL jT (cellsA (evA s y)))))), s.nx⟩, .junk, rfl, Env.le.refl E, ⟨hr.f, VH_set ?_ hr.h i, hr.nx⟩, by simp only [V], h⟩
        simp only [VP]
        exact ⟨hlt, by rw [List.length_set]; exact hgl, _, by rw [hg], VLL_set hrs (splice_VL (VL_tr (jT_ok E) _ _ hus) hvl off)⟩
      · cases h
    · cases h
  · cases h
theorem wq_slice {ty : Nat → TyI} (ht : ∀ T, TyOk P T (ty T)) {k : AV → AS → Prop} {T : TypeId} {x : Operand} {lo hi : Option Operand} (h : wq P ty s k (.slice T x lo hi none)) (hr : RS E s F L) :
    Opt P e (.slice T x lo hi none) F E.H L (POk E F k) := by
  unfold wq at h
  rcases h with h | h
  · obtain ⟨v, u, h1, h2, h3⟩ := hq_sound (e := e) ht h hr
    refine (h3 E.H L (.inr ⟨Hp.le.refl _, .inr ⟨[], rfl⟩⟩)).mono ?_
    rintro v' H' L' ⟨rfl, rfl, rfl⟩
    exact ⟨E, s, v, rfl, Env.le.refl E, hr, h2, h1⟩
  · have hx := hr.ev x
    split at h
    · rename_i lo' hi' e1 e2
      split at h
      · rename_i El kk bt hel
        have hsl := (ht T).el _ _ _ hel
        have hbnd : ∀ {o : Option Operand} {b : Option Int}, optI s o = some b → (o = none ∧ b = none) ∨ ∃ y ik i, o = some y ∧ Go.Proofs.YtlghgdgpbnlpmaaGreat.ev F y = .int ik i ∧ b = some i := by
          intro o b hb
          cases o with
          | none => simp only [optI, Option.some.injEq] at hb; exact .inl ⟨rfl, hb.symm⟩
          | some y =>
            simp only [optI] at hb
            split at hb
            · rename_i ik i hy
              have := hr.ev y
              rw [hy] at this
              cases hb
              exact .inr ⟨y, ik, i, rfl, V_int this, rfl⟩
            · cases hb
        split at h
        · rename_i id0 k0 lo0 n C w id i lo1 n1 rows hb hd
          rw [hb] at hx hd
          obtain ⟨hh, hw, g1, g2, g3, g4, hk⟩ := h.ex
          subst hw
          obtain ⟨hlt, b, C', ad, rs, hg, hL, hrs, hu, ha, hC, hCC⟩ := dstP_spec hd hr hx (.inl rfl)
          simp only [V] at hx
          obtain ⟨hlt0, b0, N0, a0, hg0, hu0, hC0, ha0, hw0⟩ := hx
          obtain ⟨hlo, hnN, hvg⟩ := hw0 trivial
          subst hlo
          obtain ⟨rfl, rfl, rfl, hCe⟩ := hCC id0 k0 0 n C true rfl
          rw [hg] at hg0
          cases hg0
          have hl := VLL_len hrs
          rw [hg] at hL
          have hval : Go.Proofs.YtlghgdgpbnlpmaaGreat.ev F x = .slice (some ⟨b, 0, none⟩) n1 C := by rw [hvg, hg, hnN]
          have hrv := v_slice (P := P) (e := e) (F := F) (H := E.H) (L := L) (T := T) (x := x) (a := some ⟨b, 0, none⟩) (n := n1) (c := C) (l := 0) (h := hh) hval (hbnd e1) (hbnd e2) (by simpa using g1) (by rw [g2]) (Nat.zero_le _) g4
          have ha0' : (if C = 0 then (some ⟨b, 0, none⟩ : Option Addr) else (some ⟨b, 0, none⟩ : Option Addr).map (·.add (0 * kk))) = some ⟨b, 0, none⟩ := by
            split
            · rfl
            · simp [Addr.add]
          rw [ha0', Nat.sub_zero, Nat.sub_zero] at hrv
          refine ⟨fun ac o w K Q ho hop hs hK => ?_⟩
          have hrun := hrv.run ac.eval o w ho (fun y hy => hop y hy) hs
          unfold Oper.wp
          rw [hrun]
          obtain ⟨T', hT1, hT2, hse⟩ := hs.relen hL (N' := hh) g4
          obtain ⟨hN2, hNC2, _, hkk, _⟩ := row_open (hs.holds _ (List.mem_of_getElem? hL))
          have htk : (rs ++ T').take hh = rs ++ T'.take (hh - rows.length) := by
            rw [List.take_append, List.take_of_length_le (by omega), hN2]
          rw [htk] at hse
          refine hK _ _ _ _ hse ⟨E.addG (.slice (some ⟨b, 0, none⟩) hh C), _, _, rfl, E.addG_le _, hr.grow (E.addG_le _) (by simp only [Env.addG, hr.nx]) (VH_set ?_ (VH_mono (E.addG_le _) hr.h) i), ?_, hk⟩
          · simp only [VP]
            refine ⟨by simp only [Env.addG, hr.nx]; omega, ⟨some ⟨b, 0, none⟩, C, by rw [← hr.nx, E.addG_at, List.length_append, List.length_replicate]; congr 1; omega⟩, _, by rw [← hr.nx, E.addG_at], VLL_append hrs (junk_VLL ?_ fun r hr' => hT2 r (List.mem_of_mem_take hr'))⟩
            rw [List.length_take, hT1]; omega
          · simp only [V]
            exact ⟨by simp only [Env.addG, hr.nx]; omega, b, hh, some ⟨b, 0, none⟩, by rw [← hr.nx, E.addG_at], by rw [Nat.sub_zero], by omega, fun _ => by simp [Addr.add], fun _ => ⟨trivial, rfl, by rw [← hr.nx, E.addG_at]⟩⟩
        · cases h
      · cases h
    · cases h
theorem wq_append {ty : Nat → TyI} (ht : ∀ T, TyOk P T (ty T)) {k : AV → AS → Prop} {xs : Array Operand} {ts : Array TypeId} (h : wq P ty s k (.call { callee := .builtin .append, args := xs, argTypes := ts })) (hr : RS E s F L) :
    Opt P e (.call { callee := .builtin .append, args := xs, argTypes := ts }) F E.H L (POk E F k) := by
  simp only [wq] at h
  split at h
  · rename_i x y t t' e1 e2
    have e1 := toL' e1
    have e2 := toL' e2
    subst e1; subst e2
    have hx := hr.ev x
    have hy := hr.ev y
    split at h
    · rename_i El kk bt hel
      have hsl := (ht t).el _ _ _ hel
      split at h
      · rename_i id0 k0 lo0 n0 C w0 id i lo n rows hb hd hbt
        rw [hb] at hx hd
        have hbt := Nat.le_of_ble_eq_true hbt
        obtain ⟨hlt, b, C', ad, rs, hg, hL, hrs, hu, ha, hC, hCC⟩ := dstP_spec hd hr hx (.inl rfl)
        obtain ⟨rfl, rfl, rfl, hCe⟩ := hCC id0 k0 lo0 n0 C w0 rfl
        subst hCe
        have hl := VLL_len hrs
        rw [hg] at hL
        split at h
        · rename_i hit
          obtain ⟨ik, hik⟩ := (ht t').it hit
          split at h
          · rename_i z hz
            rw [hz] at hy
            obtain ⟨m, rfl, rfl, hm0, hnN, hroom, hsm, hk⟩ := h.ex
            have hmul : (n + m) * bt ≤ 140737488355328 := Nat.le_trans (Nat.mul_le_mul hsm hbt) (by decide)
            have ha' : 0 < C → ad = some ⟨b, 0, none⟩ := fun h0 => by rw [ha h0]; simp [Addr.add]
            refine (opt_appendGrow (P := P) (e := e) (t := t) hik i hL (by rw [hu, Nat.sub_zero]) ha' (V_int hy) hnN hm0 hroom hsm hmul).mono ?_
            rintro v' H' L' ⟨b', c', Z, rfl, hle, rfl, hZ, hZk, rfl⟩
            refine ⟨E.addG (.slice (some ⟨b', 0, none⟩) (n + m) c'), _, _, rfl, E.addG_le _, hr.grow (E.addG_le _) (by simp only [Env.addG, hr.nx]) ?_, ?_, hk⟩
            · simp only [VH]
              refine ⟨_, L, rfl, ?_, VH_mono (E.addG_le _) hr.h⟩
              simp only [VP]
              exact ⟨by simp only [Env.addG, hr.nx]; omega, ⟨_, _, by rw [← hr.nx, E.addG_at, List.length_append, List.length_replicate, List.length_take, Nat.min_eq_left hnN]⟩, _, by rw [← hr.nx, E.addG_at], VLL_append (VLL_take hrs n) (junk_VLL hZ hZk)⟩
            · simp only [V]
              exact ⟨by simp only [Env.addG, hr.nx]; omega, by rw [← hr.nx, E.addG_at], _, _, rfl, fun _ => ⟨b', rfl⟩, hle⟩
          · cases h
        · split at h
          · rename_i n' rows' ok hs' htt
            have htt := Nat.eq_of_beq_eq_true htt
            subst htt
            obtain ⟨⟨hok, hro⟩, rfl, hN0, hfit, hk⟩ := h.ex
            obtain ⟨hn', rs', hrs', hsrc⟩ := srcB_spec hs' hok hr hy
            have hl' := VLL_len hrs'
            have h1 : ∀ v ∈ rs'.flatten, v.oneCell' = true := fun v hv => by
              obtain ⟨r, hr1, hr2⟩ := List.mem_flatten.1 hv
              exact List.all_eq_true.1 (VLL_all hrs' hro r hr1).2 v hr2
            have ha' : 0 < C → ad = some ⟨b, 0, none⟩ := fun h0 => by rw [ha h0]; simp [Addr.add]
            refine ⟨fun ac o w K Q ho hop hs hK => ?_⟩
            have hO := opt_appendIn (P := P) (e := e) (t := t) (s := x) (x := y) (n := n) i hL (by rw [hu, Nat.sub_zero]) ha' rfl (hsrc e w hs) hN0 (by omega) h1
            refine hO.run ac o w K Q ho hop hs fun v w' H' L' hs2 ⟨hv, hH, hNC, hL'⟩ => hK v w' H' L' hs2 ?_
            subst hH; subst hL'; subst hv
            rw [show n + rs'.length = n + n' by omega]
            refine ⟨E.addG (.slice (some ⟨b, 0, none⟩) (n + n') C), _, _, rfl, E.addG_le _, hr.grow (E.addG_le _) (by simp only [Env.addG, hr.nx]) (VH_set ?_ (VH_mono (E.addG_le _) hr.h) i), ?_, hk hNC⟩
            · simp only [VP]
              exact ⟨by simp only [Env.addG, hr.nx]; omega, ⟨some ⟨b, 0, none⟩, C, by rw [← hr.nx, E.addG_at, List.length_append, List.length_take]; congr 1; omega⟩, _, by rw [← hr.nx, E.addG_at], VLL_append (VLL_take hrs n) hrs'⟩
            · simp only [V]
              exact ⟨by simp only [Env.addG, hr.nx]; omega, b, n + n', some ⟨b, 0, none⟩, by rw [← hr.nx, E.addG_at], by rw [Nat.sub_zero], by omega, fun _ => by simp [Addr.add], fun _ => ⟨trivial, rfl, by rw [← hr.nx, E.addG_at]⟩⟩
          · cases h
      · cases h
    · cases h
  · cases h
theorem wq_ov {ty : Nat → TyI} {k : AV → AS → Prop} {g : Operand} {xs : Array Operand} {ts : Array TypeId} (h : wq P ty s k (.call { callee := .value g, args := xs, argTypes := ts })) (hr : RS E s F L) :
    Opt P e (.call { callee := .value g, args := xs, argTypes := ts }) F E.H L (POk E F k) := by
  simp only [wq] at h
  split at h
  · rename_i x y e1
    have e1 := toL' e1
    subst e1
    have hg := hr.ev g
    have hx := hr.ev x
    have hy := hr.ev y
    split at h
    · rename_i f id n id' k0 lo n' C w hb hb1 hb2
      rw [hb] at hg
      rw [hb1] at hx
      rw [hb2] at hy
      obtain ⟨hov, hn, hlC, hok, hk⟩ := h
      simp only [V] at hg hx hy
      obtain ⟨us, hgf, hus⟩ := hg
      simp only [VL] at hus
      subst hus
      obtain ⟨_, hxe, a, c, hxs, hxa, hnc⟩ := hx
      obtain ⟨g1, rfl⟩ := hxa hn
      obtain ⟨_, g2, N, ad, hgy, hys, hfit, had, _⟩ := hy
      have had := had hlC
      subst had
      unfold ovOk at hok
      split at hok
      · rename_i i1 id1 El1 k1 rows1 i2 id2 El2 k2 rows2 hp1 hp2
        simp only [Bool.and_eq_true, Bool.not_eq_true'] at hok
        obtain ⟨hne, hk2⟩ := hok
        have hk2 := Nat.le_of_ble_eq_true hk2
        obtain ⟨hid1, _, q1, hq1, hv1⟩ := pos_spec hr.h hp1
        obtain ⟨hid2, _, q2, hq2, hv2⟩ := pos_spec hr.h hp2
        simp only [AP.id] at hid1 hid2
        subst hid1
        subst hid2
        simp only [VP] at hv1 hv2
        obtain ⟨_, _, rs1, rfl, _⟩ := hv1
        obtain ⟨_, _, rs2, rfl, _⟩ := hv2
        rw [hxe.symm.trans hxs] at hq1
        rw [hgy] at hq2
        refine ⟨fun ac o w0 K Q ho hop hs hK => ?_⟩
        obtain ⟨_, _, _, _, T1, _, _, hh1⟩ := row_open (hs.holds _ (List.mem_of_getElem? hq1))
        obtain ⟨hN2, hNC2, _, _, T2, hT2, hk2', hh2⟩ := row_open (hs.holds _ (List.mem_of_getElem? hq2))
        have hij : i1 ≠ i2 := fun e' => by
          subst e'
          rw [hq1] at hq2
          have := pos_inj hp1 hp2
          rw [this, Nat.beq_refl] at hne
          cases hne
        have hap := pairwise_at hs.pw hq1 hq2 hij
        have hb12 : g1 ≠ g2 := fun e' => hap g1 rfl (by rw [e']; rfl)
        have hsz : 0 < (rs2 ++ T2).flatten.toArray.size := by
          rw [List.size_toArray, flatten_len _ hk2', List.length_append, hN2, hT2]
          exact Nat.mul_pos (by omega) hk2
        have hc := hov w0 g1 g2 (lo * k0) n c n' (C - lo) El1 El2 _ _ hb12 hh1 hh2 hsz
        have hgg : ac.eval g = .func (.func f) #[] #[] := (hop g (by simp [Op.operands, Call.operands])).trans hgf
        have hxx : ac.eval x = .slice (some ⟨g1, 0, none⟩) n c := (hop x (by simp [Op.operands, Call.operands])).trans hxs
        have hyy : ac.eval y = .slice (some ((⟨g2, 0, none⟩ : Addr).add (lo * k0))) n' (C - lo) := (hop y (by simp [Op.operands, Call.operands])).trans hys
        have hr2 : (execOp ac.eval o).run P w0 = .ok (.value (.bool false)) w0 := by
          unfold execOp; rw [ho]
          simp only [resolve, hgg, Deferred.ofValue, invoke, Sem.run_bind, Sem.run_pure, Result.andThen_ok, List.map_toArray, List.map_cons, List.map_nil, hxx, hyy, Array.empty_append, Array.append_empty]
          rw [show ((⟨g2, 0, none⟩ : Addr).add (lo * k0)) = ⟨g2, lo * k0, none⟩ by unfold Addr.add; split <;> simp_all]
          exact hc
        unfold Oper.wp
        rw [hr2]
        exact hK _ _ _ _ hs ⟨E, s, .bool false, rfl, Env.le.refl E, hr, by simp only [V], hk⟩
      · cases hok
    · cases h
  · cases h
theorem wq_opt {ty : Nat → TyI} (ht : ∀ T, TyOk P T (ty T)) {k : AV → AS → Prop} {op : Op} (h : wq P ty s k op) (hr : RS E s F L) : Opt P e op F E.H L (POk E F k) := by
  have h0 := h
  unfold wq at h0
  split at h0
  · exact wq_copy ht h hr
  · exact wq_clear ht h hr
  · exact wq_append ht h hr
  · exact wq_slice ht h hr
  · exact wq_ov h hr
  · exact wq_store ht h hr
  · cases h0
end sound
end Go.Proofs.YtlghgdgpbnlpmaaGreat
