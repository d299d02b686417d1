/- What is proved: what operations that change memory do over abstract values. Conditions: none. -/
import Derived.Test.YtlghgdgpbnlpmaaGreatAq
import Derived.Test.YtlghgdgpbnlpmaaGreatSto
import Derived.Lib.SliceRun
namespace Go.Proofs.YtlghgdgpbnlpmaaGreat
open Go.RowKit

def oneA : AV → Bool
  | .agg _ | .tup _ | .junk | .undef => false
  | _ => true
structure VApp (ok : Prop) (N : Nat) (k : Prop) : Prop where
  ok : ok
  len : N ≤ 2147483648
  k : k
structure VAz (i : Int) (k : Nat → Prop) : Prop where
  ex : ∃ n : Nat, i = (n : Int) ∧ 0 < n ∧ n ≤ 2147483648 ∧ k n
structure VSo (lo hi : Option Int) (n : Nat) (k : Nat → Prop) : Prop where
  ex : ∃ h : Nat, lo.getD 0 = 0 ∧ hi.getD n = (h : Int) ∧ h ≤ n ∧ k h
/-- a part that nobody reads -/
structure VSj (lo hi : Option Int) (n : Nat) (k : Prop) : Prop where
  ex : ∃ l h : Nat, lo.getD 0 = (l : Int) ∧ hi.getD n = (h : Int) ∧ l ≤ h ∧ h ≤ n ∧ k
/-- is a slice nil? -/
structure VNl (n : Nat) (k : Bool → Prop) : Prop where
  run : ∀ b, (b = true → n = 0) → k b
def RowsOk (kk : Nat) (rows : List (List AV)) : Prop := ∀ r ∈ rows, r.length = kk ∧ r.all oneA = true
/-- nothing owned: what goes into a row -/
def jT : Tr where
  own _ _ := .junk
  op _ _ := .junk
  orp _ _ _ _ := .junk
  nils := .lst 0 []
theorem jT_ok (E : Env) : TrOk jT E (Env.fz E.H) where
  H := Hp.le.refl _
  own id n v hv := by simp only [jT, V]
  op id off v hv := by simp only [jT, V]
  orp id k j off v hv := by simp only [jT, V]
  sub id k lo n C w v hv := by simp only [jT, V]
  nils v hv := by
    simp only [V] at hv
    simp only [jT, V]
    exact ⟨none, 0, 0, hv, rfl, Nat.le_refl _, Nat.zero_le _, by simp only [VR]⟩
/-- what a slice that is appended to holds: its place among the pieces (none: it is nil), its length, its rows -/
def dstA (h : List AP) (El kk : Nat) : AV → Option (Option Nat × Nat × List (List AV))
  | .nils => some (none, 0, [])
  | .own id n => match pos id h with
    | some (i, .row _ El' k' rows) => bif Nat.beq El El' && Nat.beq kk k' then some (some i, n, rows) else none
    | _ => none
  | _ => none
def srcA (h : List AP) (kk : Nat) : AV → Option (Nat × List (List AV))
  | .nils => some (0, [])
  | .lst n rows => some (n, rows)
  | .own id n => match pos id h with
    | some (_, .row _ _ k' rows) => bif Nat.beq kk k' then some (n, rows) else none
    | _ => none
  | _ => none
def setP (h : List AP) (i : Option Nat) (p : AP) : List AP :=
  match i with
  | some i => h.set i p
  | none => p :: h
def rowsB (s : AS) : Nat → List (Nat × Operand) → Option (List (List AV))
  | _, [] => some []
  | i, (j, x) :: r => bif Nat.beq i j && solid (evA s x) then (match rowsB s (i + 1) r with | some rows => some (trL jT (cellsA (evA s x)) :: rows) | none => none) else none
def lenAll (k : Nat) : List (List AV) → Bool
  | [] => true
  | r :: rows => Nat.beq r.length k && lenAll k rows
/-- a slice that is built: own, or frozen at once -/
inductive VBs (a b : Prop) : Prop where
  | own (h : a)
  | frz (h : b)
/-- given up for good: rows and blocks among hj read as frozen -/
def pfz (hj : List AP) : Tr where
  own id n := match rowOf hj id with | some rows => .lst n rows | none => .own id n
  op id off := match blkOf hj id with | some cs => .fp (trL (fz0 hj) cs) off | none => .op id off
  orp id k j off := match rowOf hj id with | some _ => .junk | none => .orp id k j off
  sub id k lo n C w := match rowOf hj id with | some _ => .junk | none => .sub id k lo n C w
  nils := .nils
def pfP (hj : List AP) : AP → AP
  | .blk id cs T => .blk id (trL (pfz hj) cs) T
  | p => p
def frzS (js : List Nat) (s : AS) : AS :=
  match js with
  | [] => s
  | js => let hj := pickA js s.h; ⟨fun t => tr (pfz hj) (s.F t), (pickR js s.h).map (pfP hj), s.nx⟩
/-- a call whose answer is frozen, and what is handed in is given up -/
structure VCz (P : Program) (f : FuncId) (args : List AV) (k : AV → Prop) : Prop where
  ex : ∃ R, AFnR P f args R ∧ ∀ r, R r → kx r k
theorem VCz.of {P : Program} {f : FuncId} {args : List AV} {k : AV → Prop} {r : AV} (h : AFnP P f args r) (hk : kx r k) : VCz P f args k := ⟨_, h.toR, fun _ e => by subst e; exact hk⟩
/-- a call to which pieces are handed over -/
structure VCo (P : Program) (f : FuncId) (args : List AV) (h : List AP) (b : Bool) (k : AV → List AP → Prop) : Prop where
  ex : ∃ R, AFn P f args h R ∧ b = true ∧ ∀ r h', R r h' → kx r fun r => k r h'
def backN (j nx : Nat) (js : List Nat) (i : Nat) : Nat := bif Nat.ble (i + 1) j then js.getD i 0 else nx + (i - j)

/-! values and pieces are worked out before they are kept -/
def fcLL : List (List AV) → (List (List AV) → Prop) → Prop
  | [], k => k []
  | r :: l, k => fcL r fun r => fcLL l fun l => k (r :: l)
def fcP (p : AP) (k : AP → Prop) : Prop :=
  match p with
  | .blk id cs T => fcI id fun id => fcL cs fun cs => k (.blk id cs T)
  | .row id El kk rows => fcI id fun id => k (.row id El kk rows)
  | .bag id rs => fcI id fun id => k (.bag id rs)
def fcH : List AP → (List AP → Prop) → Prop
  | [], k => k []
  | p :: h, k => fcP p fun p => fcH h fun h => k (p :: h)
def fcN : List Nat → (List Nat → Prop) → Prop
  | [], k => k []
  | i :: l, k => fcN l fun l => k (i :: l)
theorem fcLL_self : ∀ {l : List (List AV)} {k : List (List AV) → Prop}, fcLL l k → k l
  | [], _, h => h
  | r :: l, k, h => by rw [fcLL] at h; exact fcLL_self (k := fun l => k (r :: l)) (fcL_self (k := fun r => fcLL l fun l => k (r :: l)) h)
theorem fcP_self {p : AP} {k : AP → Prop} (h : fcP p k) : k p := by
  cases p with
  | blk id cs T => exact fcL_self (k := fun cs => k (.blk id cs T)) (fcI_self (k := fun id => fcL cs fun cs => k (.blk id cs T)) h)
  | row id El kk rows => exact fcI_self (k := fun id => k (.row id El kk rows)) h
  | bag id rs => exact fcI_self (k := fun id => k (.bag id rs)) h
theorem fcH_self : ∀ {l : List AP} {k : List AP → Prop}, fcH l k → k l
  | [], _, h => h
  | v :: l, k, h => by rw [fcH] at h; exact fcH_self (k := fun l => k (v :: l)) (fcP_self h)
theorem fcN_self : ∀ {l : List Nat} {k : List Nat → Prop}, fcN l k → k l
  | [], _, h => h
  | v :: l, k, h => by rw [fcN] at h; exact fcN_self (k := fun l => k (v :: l)) h
def put1 (s : AS) (d : Option Nat) (v : AV) (k : AS → Prop) : Prop :=
  match s, d with
  | ⟨F, h, nx⟩, some d => fc v fun v => k ⟨updA F d v, h, nx⟩
  | s, none => k s
theorem put1_self {s : AS} {d : Option Nat} {v : AV} {k : AS → Prop} (h : put1 s d v k) : k (s.put d v) := by
  cases d with
  | none => exact h
  | some d => exact fc_self (k := fun v => k ⟨updA s.F d v, s.h, s.nx⟩) h
def put2 (s : AS) (d : Option Nat) (v : AV) (k : AS → Prop) : Prop :=
  match s with
  | ⟨F, h, nx⟩ => fcI nx fun nx => fcH h fun h => put1 ⟨F, h, nx⟩ d v k
theorem put2_self {s : AS} {d : Option Nat} {v : AV} {k : AS → Prop} (h : put2 s d v k) : k (s.put d v) :=
  put1_self (fcH_self (k := fun h => put1 ⟨s.F, h, s.nx⟩ d v k) (fcI_self (k := fun nx => fcH s.h fun h => put1 ⟨s.F, h, nx⟩ d v k) h))
/-- a call to which pieces are handed over: those that its arguments name, and those with numbers below m -/
def coA (P : Program) (f : FuncId) (al : List AV) (s : AS) (m : Nat) (k : AV → AS → Prop) : Prop :=
  VCo P f (trL (renT (idx (canon m al s.h))) al) ((pickA (canon m al s.h) s.h).map (renP (idx (canon m al s.h))))
    (Nat.ble m s.nx && Nat.beq (canon m al s.h).length (pickA (canon m al s.h) s.h).length) (fun r h' => fc (tr (renT fun i => some (backN (canon m al s.h).length s.nx (canon m al s.h) i)) r) fun r =>
      fcI (s.nx + (topN h' (canon m al s.h).length - (canon m al s.h).length)) fun nx =>
      fcH (h'.map (renP fun i => some (backN (canon m al s.h).length s.nx (canon m al s.h) i)) ++ pickR (canon m al s.h) s.h) fun h => k r ⟨s.F, h, nx⟩)
/-- an operation that may change memory: k holds of what it answers and of the state behind it -/
def bq (P : Program) (ty : Nat → TyI) (s : AS) (k : AV → AS → Prop) : Op → Prop
  | .alloc T => match (ty T).z with
    | some zs => k (.op s.nx 0) ⟨s.F, .blk s.nx (zs.map cv1) T :: s.h, s.nx + 1⟩
    | none => False
  | .box T x => match solid (evA s x) with
    | true => k (.op s.nx 0) ⟨s.F, .blk s.nx (cellsA (evA s x)) T :: s.h, s.nx + 1⟩
    | false => False
  | .store T x y => match evA s x with
    | .op id off => (match pos id s.h with
      | some (i, .blk _ cs T') => (match solid (evA s y) && ((cellsA (evA s y)).all oneA && (Nat.beq (cellsA (evA s y)).length (ty T).k && (Nat.ble (off + (ty T).k) cs.length && Nat.ble 1 (ty T).k))) with
        | true => k .junk ⟨s.F, s.h.set i (.blk id (spliceA cs off (cellsA (evA s y))) T'), s.nx⟩
        | false => False)
      | _ => False)
    | .orp id kk j off => (match pos id s.h with
      | some (i, .row _ El k' rows) => (match Nat.beq kk k' && (oneA (evA s y) && (Nat.beq (ty T).k 1 && (!(ty T).agg && Nat.ble (off + 1) kk))) with
        | true => VRow rows j fun r => fc (tr jT (evA s y)) fun v => k .junk ⟨s.F, s.h.set i (.row id El k' (rows.set j (r.set off v))), s.nx⟩
        | false => False)
      | _ => False)
    | _ => False
  | .buildSlice T len parts => match (ty T).el with
    | some (El, kk, _) => (match rowsB s 0 parts.toList with
      | some rows => (match Nat.beq rows.length len && (Nat.ble (len * kk) 16777216 && lenAll kk rows) with
        | true => fcLL rows fun rows => VBs (k (.own s.nx len) ⟨s.F, .row s.nx El kk rows :: s.h, s.nx + 1⟩) (k (.lst len rows) s)
        | false => False)
      | none => False)
    | none => False
  | .call { callee := .builtin .append, args := xs, argTypes := ts } => match xs.toList, ts.toList with
    | [x, y], [t, t'] => (match (ty t).el with
      | some (El, kk, bt) => (match (ty t').it with
        | true => (match evA s x, evA s y with
          | .nils, .int .i64 i => (match Nat.ble bt 65536 && Nat.ble 1 kk with
            | true => VAz i fun n => k (.own s.nx n) ⟨s.F, .row s.nx El kk (List.replicate n (List.replicate kk .junk)) :: s.h, s.nx + 1⟩
            | false => False)
          | _, _ => False)
        | false => match dstA s.h El kk (evA s x), srcA s.h kk (evA s y), Nat.beq t t' && (Nat.ble bt 65536 && Nat.ble 1 kk) with
        | some (i, n, rows), some (n', rows'), true => VApp (RowsOk kk rows') (n + n') (k (.own s.nx (n + n')) ⟨s.F, setP s.h i (.row s.nx El kk (rows ++ rows')), s.nx + 1⟩)
        | _, _, _ => False)
      | none => False)
    | _, _ => False
  | .slice T x lo hi none => match optI s lo, optI s hi with
    | some lo, some hi => (match (ty T).el with
      | some (El, kk, _) => (match evA s x with
        | .own id n => (match pos id s.h with
          | some (i, .row _ El' k' rows) => (match Nat.beq El El' && Nat.beq kk k' with
            | true => VSo lo hi n (fun h => k (.own s.nx h) ⟨s.F, s.h.set i (.row s.nx El' k' (rows.take h)), s.nx + 1⟩) ∨ (VSw lo hi n (fun l h C => k (.sub id kk l (h - l) C false) s) ∨ VSj lo hi n (k .junk s))
            | false => False)
          | _ => False)
        | _ => False)
      | none => False)
    | _, _ => False
  | .binOp .eql T x y _ => match evA s x, evA s y with
    | .lst n _, .nils => (match (ty T).el with
      | some _ => VNl n fun b => k (.bool b) s
      | none => False)
    | _, _ => False
  | .call { callee := .value g, args := xs, argTypes := _ } => match evA s g with
    | .fn f caps =>
      VCz P f (trL (fz1 (pickA (canon 0 (evLA s xs.toList ++ caps) s.h) s.h)) (evLA s xs.toList ++ caps)) (fun r => k r (frzS (canon 0 (evLA s xs.toList ++ caps) s.h) s)) ∨
      (coA P f (evLA s xs.toList ++ caps) s 0 k ∨ coA P f (evLA s xs.toList ++ caps) s 1 k)
    | _ => False
  | _ => False
/-- is that operation to be seen as one that may change memory, and leaves the pieces as they were? -/
def nmOp : Op → Bool
  | .alloc _ | .box _ _ | .buildSlice _ _ _ => true
  | _ => false

def Env.addB (E : Env) (b : Nat) : Env := ⟨E.H, fun i => bif Nat.beq i E.nx then b else E.m i, E.g, E.nx + 1⟩
def Env.addG (E : Env) (v : Value) : Env := ⟨E.H, E.m, fun i => bif Nat.beq i E.nx then v else E.g i, E.nx + 1⟩
theorem beq_lt {i n : Nat} (h : i < n) : Nat.beq i n = false := by
  cases hb : Nat.beq i n with
  | false => rfl
  | true => have := Nat.eq_of_beq_eq_true hb; omega
theorem Env.addB_le (E : Env) (b : Nat) : E.le (E.addB b) := ⟨Hp.le.refl _, Nat.le_succ _, fun i hi => by simp only [Env.addB, beq_lt hi, cond_false], fun _ _ => rfl⟩
theorem Env.addG_le (E : Env) (v : Value) : E.le (E.addG v) := ⟨Hp.le.refl _, Nat.le_succ _, fun _ _ => rfl, fun i hi => by simp only [Env.addG, beq_lt hi, cond_false]⟩
theorem Env.addB_at (E : Env) (b : Nat) : (E.addB b).m E.nx = b := by simp only [Env.addB, Nat.beq_refl, cond_true]
theorem Env.addG_at (E : Env) (v : Value) : (E.addG v).g E.nx = v := by simp only [Env.addG, Nat.beq_refl, cond_true]
theorem Opt.mono {P : Program} {e : Ent} {op : Op} {F : Slots} {H : Hp} {L : List Piece} {R R' : Value → Hp → List Piece → Prop} (h : Opt P e op F H L R) (hR : ∀ v H' L', R v H' L' → R' v H' L') : Opt P e op F H L R' :=
  ⟨fun a o w K Q ho hop hs hK => h.run a o w K Q ho hop hs fun v w' H' L' hs' hr => hK v w' H' L' hs' (hR v H' L' hr)⟩
theorem oneA_spec {E : Env} {a : AV} (h : oneA a = true) {v : Value} (hv : V E a v) : v.oneCell' = true := by
  cases a <;> simp only [oneA, Bool.false_eq_true] at h <;> simp only [V] at hv
  · subst hv; rfl
  · subst hv; rfl
  · subst hv; rfl
  · obtain ⟨us, rfl, _⟩ := hv; rfl
  · subst hv; rfl
  · obtain ⟨a, c, k, rfl, _⟩ := hv; rfl
  · subst hv; rfl
  · obtain ⟨_, _, a, c, rfl, _⟩ := hv; rfl
  · obtain ⟨A, us, rfl, _⟩ := hv; rfl
  · obtain ⟨_, rfl⟩ := hv; rfl
  · obtain ⟨_, b, n, c, _, rfl⟩ := hv; rfl
  · obtain ⟨_, b, N, a, _, rfl, _⟩ := hv; rfl
  · subst hv; rfl
  · subst hv; rfl
theorem oneA_all {E : Env} : ∀ {al : List AV} {us : List Value}, VL E al us → al.all oneA = true → us.all Value.oneCell' = true
  | [], us, h, _ => by simp only [VL] at h; subst h; rfl
  | a :: al, us, h, ho => by
    simp only [VL] at h
    obtain ⟨u, us', rfl, h1, h2⟩ := h
    simp only [List.all_cons, Bool.and_eq_true] at ho ⊢
    exact ⟨oneA_spec ho.1 h1, oneA_all h2 ho.2⟩
theorem VLL_all {E : Env} {kk : Nat} : ∀ {rows : List (List AV)} {rs : List (List Value)}, VLL E rows rs → RowsOk kk rows → ∀ r ∈ rs, r.length = kk ∧ r.all Value.oneCell' = true
  | [], rs, h, _, r, hr => by simp only [VLL] at h; subst h; cases hr
  | r0 :: rows, rs, h, hk, r, hr => by
    simp only [VLL] at h
    obtain ⟨us, rs', rfl, h1, h2⟩ := h
    rcases List.mem_cons.1 hr with rfl | hr
    · obtain ⟨h3, h4⟩ := hk r0 (List.mem_cons_self ..)
      exact ⟨by rw [VL_len h1, h3], oneA_all h1 h4⟩
    · exact VLL_all h2 (fun q hq => hk q (List.mem_cons_of_mem _ hq)) r hr
theorem VR_rows {E : Env} {a : Option Addr} {k : Nat} : ∀ {rows : List (List AV)} {i : Nat}, VR E a k i rows → ∃ rs, VLL E rows rs ∧ ∀ j us, rs[j]? = some us → us.length = k ∧ ∃ ad : Addr, a = some ad ∧ At E.H (ad.add ((i + j) * k)) us
  | [], i, _ => ⟨[], by simp only [VLL], fun j us h => by simp at h⟩
  | r :: rows, i, h => by
    simp only [VR] at h
    obtain ⟨⟨ad, us, h1, h2, h3, h4⟩, h5⟩ := h
    obtain ⟨rs, h6, h7⟩ := VR_rows h5
    refine ⟨us :: rs, by simp only [VLL]; exact ⟨us, rs, rfl, h4, h6⟩, fun j vs hj => ?_⟩
    cases j with
    | zero => simp at hj; subst hj; exact ⟨by rw [VL_len h4, h2], ad, h1, by simpa using h3⟩
    | succ j =>
      have := h7 j vs (by simpa using hj)
      rwa [show i + 1 + j = i + (j + 1) by omega] at this
theorem flatten_get {k : Nat} : ∀ {rows : List (List Value)}, (∀ r ∈ rows, r.length = k) → ∀ {j : Nat} {u : Value}, rows.flatten[j]? = some u → ∃ q x us, rows[q]? = some us ∧ us[x]? = some u ∧ j = q * k + x
  | [], _, j, u, h => by simp at h
  | r :: rows, hk, j, u, h => by
    have hr := hk r (List.mem_cons_self ..)
    rw [List.flatten_cons] at h
    by_cases hj : j < r.length
    · rw [List.getElem?_append_left hj] at h
      exact ⟨0, j, r, rfl, h, by simp⟩
    · rw [List.getElem?_append_right (by omega)] at h
      obtain ⟨q, x, us, h1, h2, h3⟩ := flatten_get (fun r' h' => hk r' (List.mem_cons_of_mem _ h')) h
      exact ⟨q + 1, x, us, by simpa using h1, h2, by rw [Nat.add_mul]; omega⟩

section sound
variable {P : Program} {e : Ent} {E : Env} {s : AS} {F : Slots} {L : List Piece}
/-- what is appended lies ready -/
theorem srcA_spec {kk : Nat} {a : AV} {n' : Nat} {rows' : List (List AV)} (h : srcA s.h kk a = some (n', rows')) (hr : RS E s F L) {u : Value} (hv : V E a u) (hok : RowsOk kk rows') :
    n' = rows'.length ∧ ∃ rs, VLL (Env.fz E.H) rows' rs ∧ RSrc E.H L u kk rs := by
  unfold srcA at h
  split at h
  · cases h
    simp only [V] at hv
    exact ⟨rfl, [], by simp only [VLL], ⟨fun r hr => absurd hr List.not_mem_nil, none, 0, hv, fun _ _ _ => .inl rfl⟩⟩
  · rename_i n rows
    cases h
    simp only [V] at hv
    obtain ⟨a, c, k, rfl, hn, h3, h4, h5⟩ := hv
    obtain ⟨rs, h6, h7⟩ := VR_rows h5
    have hlen := VLL_len h6
    have hall := VLL_all h6 hok
    refine ⟨hn, rs, h6, ⟨fun r hr => (hall r hr).1, a, c, by rw [hlen, hn], fun e w hs => ?_⟩⟩
    by_cases h0 : rs = []
    · exact .inl h0
    · right
      obtain ⟨r0, rs0, hr0⟩ := List.exists_cons_of_ne_nil h0
      obtain ⟨hk0, ad, ha, _⟩ := h7 0 r0 (by rw [hr0]; rfl)
      have hkk : k = kk := by rw [← hk0]; exact (hall r0 (by rw [hr0]; exact List.mem_cons_self ..)).1
      subst hkk
      refine ⟨ad, ha, fun j u hu => ?_⟩
      obtain ⟨q, x, us, h8, h9, rfl⟩ := flatten_get (fun r hr => (hall r hr).1) hu
      obtain ⟨_, ad', ha', hat⟩ := h7 q us h8
      rw [ha] at ha'
      cases ha'
      have := (hat.mono hs.le) x u h9
      rw [cellH_hp, add_add, Nat.zero_add] at this
      exact this
  · rename_i id n
    split at h
    · rename_i i id' El k' rows hp
      cases hk : Nat.beq kk k' with
      | false => rw [hk] at h; cases h
      | true =>
        rw [hk, cond_true] at h
        cases h
        have := Nat.eq_of_beq_eq_true hk
        subst this
        obtain ⟨hid, hi, q, hq, hvp⟩ := pos_spec hr.h hp
        simp only [AP.id] at hid
        subst hid
        simp only [VP] at hvp
        obtain ⟨_, ⟨a', c', hg'⟩, rs, rfl, hrs⟩ := hvp
        simp only [V] at hv
        obtain ⟨_, rfl, a, c, hg, hb⟩ := hv
        have hlen := VLL_len hrs
        have hall := VLL_all hrs hok
        have h0 := hg'
        rw [hg] at h0
        cases h0
        exact ⟨rfl, rs, hrs, rsrc_row hq hg hlen.symm (fun r hr => (hall r hr).1)⟩
    · cases h
  · cases h
theorem RS.grow {E' : Env} (hr : RS E s F L) (hE : E.le E') (hn : E'.nx = s.nx + 1) {h' : List AP} {L' : List Piece} (hh : VH E' h' L') : RS E' ⟨s.F, h', s.nx + 1⟩ F L' := ⟨fun t => (hr.f t).mono hE, hh, hn⟩
theorem bq_alloc {ty : Nat → TyI} (ht : ∀ T, TyOk P T (ty T)) {k : AV → AS → Prop} {T : TypeId} (h : bq P ty s k (.alloc T)) (hr : RS E s F L) :
    Opt P e (.alloc T) F E.H L (fun v' H' L' => ∃ E' s1 v, E'.H = H' ∧ E.le E' ∧ RS E' s1 F L' ∧ V E' v v' ∧ k v s1 ∧ ∃ O, L' = O ++ L) := by
  simp only [bq] at h
  split at h
  · rename_i zs hz
    have := (ht T).z zs hz
    refine opt_alloc.mono ?_
    rintro v' H' L' ⟨b, rfl, rfl, rfl⟩
    refine ⟨E.addB b, _, _, rfl, E.addB_le b, hr.grow (E.addB_le b) (by simp only [Env.addB, hr.nx]) ?_, ?_, h, [_], rfl⟩
    · simp only [VH]
      refine ⟨_, L, rfl, ?_, VH_mono (E.addB_le b) hr.h⟩
      simp only [VP]
      exact ⟨by simp only [Env.addB, hr.nx]; omega, zs, by rw [← hr.nx, E.addB_at], VL_cv1 _ zs⟩
    · simp only [V]
      exact ⟨by simp only [Env.addB, hr.nx]; omega, by rw [← hr.nx, E.addB_at]⟩
  · cases h
theorem bq_box {ty : Nat → TyI} {k : AV → AS → Prop} {T : TypeId} {x : Operand} (h : bq P ty s k (.box T x)) (hr : RS E s F L) :
    Opt P e (.box T x) F E.H L (fun v' H' L' => ∃ E' s1 v, E'.H = H' ∧ E.le E' ∧ RS E' s1 F L' ∧ V E' v v' ∧ k v s1 ∧ ∃ O, L' = O ++ L) := by
  simp only [bq] at h
  split at h
  · rename_i hs
    obtain ⟨us, hv, hus⟩ := solid_cells (hr.ev x) hs
    refine (opt_box (T := T) rfl hv).mono ?_
    rintro v' H' L' ⟨b, rfl, rfl, rfl⟩
    refine ⟨E.addB b, _, _, rfl, E.addB_le b, hr.grow (E.addB_le b) (by simp only [Env.addB, hr.nx]) ?_, ?_, h, [_], rfl⟩
    · simp only [VH]
      refine ⟨_, L, rfl, ?_, VH_mono (E.addB_le b) hr.h⟩
      simp only [VP]
      exact ⟨by simp only [Env.addB, hr.nx]; omega, us, by rw [← hr.nx, E.addB_at], hus.mono (E.addB_le b)⟩
    · simp only [V]
      exact ⟨by simp only [Env.addB, hr.nx]; omega, by rw [← hr.nx, E.addB_at]⟩
  · cases h
theorem bq_store {ty : Nat → TyI} (ht : ∀ T, TyOk P T (ty T)) {k : AV → AS → Prop} {T : TypeId} {x y : Operand} (h : bq P ty s k (.store T x y)) (hr : RS E s F L) :
    Opt P e (.store T x y) F E.H L (fun v' H' L' => ∃ E' s1 v, E'.H = H' ∧ E.le E' ∧ RS E' s1 F L' ∧ V E' v v' ∧ k v s1) := by
  simp only [bq] at h
  have hx := hr.ev x
  have hy := hr.ev y
  split at h
  · rename_i id off hb
    rw [hb] at hx
    split at h
    · rename_i i id' cs T' hp
      split at h
      · rename_i hc
        simp only [Bool.and_eq_true] at hc
        obtain ⟨h1, h2, h3, h4, h5⟩ := hc
        obtain ⟨us, hv, hus⟩ := solid_cells hy h1
        obtain ⟨hid, hi, q, hq, hvp⟩ := pos_spec hr.h hp
        simp only [AP.id] at hid
        subst hid
        simp only [VP] at hvp
        obtain ⟨hlt, ws, rfl, hws⟩ := hvp
        simp only [V] at hx
        have hlen : us.length = (ty T).k := by rw [VL_len hus]; exact Nat.eq_of_beq_eq_true h3
        have hk : ∀ w, (sizeOf T).run P w = .ok (ty T).k w := by
          intro w
          cases hg : (ty T).agg with
          | true => exact ((ht T).ag hg).hk w
          | false =>
            by_cases h1k : (ty T).k = 1
            · rw [h1k]; exact ((ht T).one hg h1k).hk w
            · have := (ht T).sz hg h1k
              have := Nat.le_of_ble_eq_true h5
              omega
        refine (opt_store (T := T) (k := (ty T).k) i hk hx.2 hq rfl hv hlen (by rw [VL_len hws]; exact h4) (oneA_all hus h2)).mono ?_
        rintro v' H' L' ⟨rfl, rfl⟩
        refine ⟨E, ⟨s.F, s.h.set i (.blk id' (spliceA cs off (cellsA (evA s y))) T'), s.nx⟩, .junk, rfl, Env.le.refl E, ⟨hr.f, VH_set ?_ hr.h i, hr.nx⟩, by simp only [V], h⟩
        simp only [VP]
        exact ⟨hlt, _, rfl, splice_VL hus hws off⟩
      · cases h
    · cases h
  · rename_i id kk j off hb
    rw [hb] at hx
    split at h
    · rename_i i id' El k' rows hp
      split at h
      · rename_i hc
        simp only [Bool.and_eq_true, Bool.not_eq_true'] at hc
        obtain ⟨h1, h2, h3, h4, h5⟩ := hc
        obtain ⟨r, hrj, h⟩ := h.ex
        have h := fc_self h
        have := Nat.eq_of_beq_eq_true h1
        subst this
        obtain ⟨hid, hi, q, hq, hvp⟩ := pos_spec hr.h hp
        simp only [AP.id] at hid
        subst hid
        simp only [VP] at hvp
        obtain ⟨hlt, hgl, rs, rfl, hrs⟩ := hvp
        simp only [V] at hx
        obtain ⟨_, b, n, c, hg, hx⟩ := hx
        obtain ⟨us, hus, hvl⟩ := VLL_get hrs hrj
        have := (ht T).one h4 (Nat.eq_of_beq_eq_true h3)
        rw [hg] at hq
        refine (opt_sto (T := T) i hx hq hus rfl (oneA_spec h2 hy) h5).mono ?_
        rintro v' H' L' ⟨rfl, rfl⟩
        refine ⟨E, ⟨s.F, s.h.set i (.row id' El kk (rows.set j (r.set off (tr jT (evA s y))))), s.nx⟩, .junk, rfl, Env.le.refl E, ⟨hr.f, VH_set ?_ hr.h i, hr.nx⟩, by simp only [V], h⟩
        simp only [VP]
        exact ⟨hlt, by rw [List.length_set]; exact hgl, _, by rw [hg], VLL_set hrs (VL_set hvl (V_tr (jT_ok E) _ _ hy))⟩
      · cases h
    · cases h
  · cases h
theorem rowsB_spec : ∀ {ps : List (Nat × Operand)} {i : Nat} {rows : List (List AV)}, rowsB s i ps = some rows → RS E s F L → ∃ (xs : List Operand) (rs : List (List Value)), ps = enumL i xs ∧ (xs.map (Go.Proofs.YtlghgdgpbnlpmaaGreat.ev F)).map Value.cells = rs.map List.toArray ∧ VLL (Env.fz E.H) rows rs
  | [], i, rows, h, hr => by cases h; exact ⟨[], [], rfl, rfl, by simp only [VLL]⟩
  | (j, x) :: ps, i, rows, h, hr => by
    rw [rowsB] at h
    cases hc : (Nat.beq i j && solid (evA s x)) with
    | false => rw [hc] at h; cases h
    | true =>
      rw [hc, cond_true] at h
      simp only [Bool.and_eq_true] at hc
      cases hb : rowsB s (i + 1) ps with
      | none => rw [hb] at h; cases h
      | some rows' =>
        rw [hb] at h
        cases h
        obtain ⟨xs, rs, rfl, h2, h3⟩ := rowsB_spec hb hr
        obtain ⟨us, h4, h5⟩ := solid_cells (hr.ev x) hc.2
        refine ⟨x :: xs, us :: rs, by rw [← Nat.eq_of_beq_eq_true hc.1]; rfl, by simp only [List.map_cons, h4, h2], ?_⟩
        simp only [VLL]
        exact ⟨us, rs, rfl, VL_tr (jT_ok E) _ _ h5, h3⟩
theorem lenAll_spec {k : Nat} : ∀ {rows : List (List AV)} {rs : List (List Value)}, lenAll k rows = true → VLL E rows rs → ∀ r ∈ rs, r.length = k
  | [], rs, _, h, r, hr => by simp only [VLL] at h; subst h; cases hr
  | r0 :: rows, rs, hl, h, r, hr => by
    simp only [lenAll, Bool.and_eq_true] at hl
    simp only [VLL] at h
    obtain ⟨us, rs', rfl, h1, h2⟩ := h
    rcases List.mem_cons.1 hr with rfl | hr
    · rw [VL_len h1]; exact Nat.eq_of_beq_eq_true hl.1
    · exact lenAll_spec hl.2 h2 r hr
theorem bq_buildSlice {ty : Nat → TyI} (ht : ∀ T, TyOk P T (ty T)) {k : AV → AS → Prop} {T : TypeId} {len : Nat} {parts : Array (Nat × Operand)} (h : bq P ty s k (.buildSlice T len parts)) (hr : RS E s F L) :
    Opt P e (.buildSlice T len parts) F E.H L (fun v' H' L' => ∃ E' s1 v, E'.H = H' ∧ E.le E' ∧ RS E' s1 F L' ∧ V E' v v' ∧ k v s1 ∧ ∃ O, L' = O ++ L) := by
  simp only [bq] at h
  split at h
  · rename_i El kk bt hel
    have := (ht T).el _ _ _ hel
    split at h
    · rename_i rows hrows
      split at h
      · rename_i hc
        simp only [Bool.and_eq_true] at hc
        have h := fcLL_self h
        obtain ⟨h1, h2, h3⟩ := hc
        obtain ⟨xs, rs, hps, hcells, hvl⟩ := rowsB_spec hrows hr
        have hlen := VLL_len hvl
        have hm : rs.length = len := by rw [hlen]; exact Nat.eq_of_beq_eq_true h1
        have hO := opt_buildSlice (P := P) (e := e) (F := F) (H := E.H) (L := L) (T := T) (xs := xs) (rows := rs) rfl hcells (lenAll_spec h3 hvl) hm (Nat.le_of_ble_eq_true h2)
        rw [← hps] at hO
        have hpa : parts.toList.toArray = parts := by simp
        rw [hpa] at hO
        have hown : ∀ b : Nat, V (E.addG (.slice (some ⟨b, 0, none⟩) len len)) (.own s.nx len) (.slice (some ⟨b, 0, none⟩) len len) := fun b => by
          simp only [V]
          exact ⟨by simp only [Env.addG, hr.nx]; omega, by rw [← hr.nx, E.addG_at], _, _, rfl, fun _ => ⟨b, rfl⟩, Nat.le_refl _⟩
        have hrow : ∀ b : Nat, VP (E.addG (.slice (some ⟨b, 0, none⟩) len len)) (.row s.nx El kk rows) (.row (.slice (some ⟨b, 0, none⟩) len len) El kk rs) := fun b => by
          simp only [VP]
          refine ⟨by simp only [Env.addG, hr.nx]; omega, ⟨_, _, by rw [← hr.nx, E.addG_at, ← hlen, hm]⟩, rs, by rw [← hr.nx, E.addG_at], hvl⟩
        rcases h with h | h
        rotate_left
        · refine ⟨fun a o w K Q ho hop hs hK => hO.run a o w K Q ho hop hs fun v' w' H' L' hs' hR => ?_⟩
          obtain ⟨b, rfl, rfl, rfl⟩ := hR
          obtain ⟨H2, h4, h5, h6⟩ := freezeAll [.row (.slice (some ⟨b, 0, none⟩) len len) El kk rs] (L2 := L) hs'
          have f : Frz (E.addG (.slice (some ⟨b, 0, none⟩) len len)) [.row s.nx El kk rows] [.row (.slice (some ⟨b, 0, none⟩) len len) El kk rs] H2 :=
            ⟨h4, by simp only [VH]; exact ⟨_, [], rfl, hrow b, rfl⟩, fun p hp => ⟨w', hs'.holds p (by rw [List.mem_singleton] at hp; subst hp; exact List.mem_cons_self ..), h6 p hp⟩⟩
          have hle : E.le { E with H := H2 } := ⟨h4, Nat.le_refl _, fun _ _ => rfl, fun _ _ => rfl⟩
          have hro : rowOf [AP.row s.nx El kk rows] s.nx = some rows := by simp [rowOf, pos, AP.id]
          exact hK _ w' H2 L h5 ⟨{ E with H := H2 }, s, .lst len rows, rfl, hle, hr.mono hle hr.nx, (frz_row f hro (hown b)).mono (Env.le.of (Hp.le.refl _)), h, [], rfl⟩
        refine hO.mono ?_
        rintro v' H' L' ⟨b, rfl, rfl, rfl⟩
        refine ⟨E.addG (.slice (some ⟨b, 0, none⟩) len len), _, _, rfl, E.addG_le _, hr.grow (E.addG_le _) (by simp only [Env.addG, hr.nx]) ?_, ?_, h, [_], rfl⟩
        · simp only [VH]
          refine ⟨_, L, rfl, ?_, VH_mono (E.addG_le _) hr.h⟩
          simp only [VP]
          refine ⟨by simp only [Env.addG, hr.nx]; omega, ⟨_, _, by rw [← hr.nx, E.addG_at, ← hlen, hm]⟩, rs, by rw [← hr.nx, E.addG_at], hvl⟩
        · simp only [V]
          exact ⟨by simp only [Env.addG, hr.nx]; omega, by rw [← hr.nx, E.addG_at], _, _, rfl, fun _ => ⟨b, rfl⟩, Nat.le_refl _⟩
      · cases h
    · cases h
  · cases h
/-- where it is appended -/
theorem dstA_spec {El kk : Nat} {a : AV} {i : Option Nat} {n : Nat} {rows : List (List AV)} (h : dstA s.h El kk a = some (i, n, rows)) (hr : RS E s F L) {u : Value} (hv : V E a u) :
    n = rows.length ∧ ((i = none ∧ rows = [] ∧ u = .slice none 0 0) ∨ ∃ i0 rs, i = some i0 ∧ L[i0]? = some (.row u El kk rs) ∧ VLL (Env.fz E.H) rows rs) := by
  unfold dstA at h
  split at h
  · cases h
    simp only [V] at hv
    exact ⟨rfl, .inl ⟨rfl, rfl, hv⟩⟩
  · rename_i id n0
    split at h
    · rename_i i0 id' El' k' rows0 hp
      cases hk : (Nat.beq El El' && Nat.beq kk k') with
      | false => rw [hk] at h; cases h
      | true =>
        rw [hk, cond_true] at h
        cases h
        simp only [Bool.and_eq_true] at hk
        have h1 := Nat.eq_of_beq_eq_true hk.1
        have h2 := Nat.eq_of_beq_eq_true hk.2
        subst h1; subst h2
        obtain ⟨hid, hi, q, hq, hvp⟩ := pos_spec hr.h hp
        simp only [AP.id] at hid
        subst hid
        simp only [VP] at hvp
        obtain ⟨_, ⟨a', c', hg'⟩, rs, rfl, hrs⟩ := hvp
        simp only [V] at hv
        obtain ⟨_, rfl, a, c, hg, hb⟩ := hv
        have h0 := hg'
        rw [hg] at h0
        cases h0
        exact ⟨rfl, .inr ⟨_, rs, rfl, hq, hrs⟩⟩
    · cases h
  · cases h
theorem chunks (k : Nat) : ∀ (n : Nat) (xs : List Value), xs.length = n * k → ∃ rs : List (List Value), rs.flatten = xs ∧ rs.length = n ∧ ∀ r ∈ rs, r.length = k
  | 0, xs, h => ⟨[], by simpa using (List.eq_nil_of_length_eq_zero (by simpa using h)).symm, rfl, fun r hr => absurd hr List.not_mem_nil⟩
  | n + 1, xs, h => by
    rw [Nat.succ_mul] at h
    obtain ⟨rs, h1, h2, h3⟩ := chunks k n (xs.drop k) (by rw [List.length_drop]; omega)
    refine ⟨xs.take k :: rs, by rw [List.flatten_cons, h1, List.take_append_drop], by simp [h2], fun r hr => ?_⟩
    rcases List.mem_cons.1 hr with rfl | hr
    · rw [List.length_take]; omega
    · exact h3 r hr
theorem junk_VL {E : Env} : ∀ {k : Nat} {us : List Value}, us.length = k → VL E (List.replicate k .junk) us
  | 0, us, h => by simp only [List.replicate_zero, VL]; exact List.eq_nil_of_length_eq_zero h
  | k + 1, [], h => by simp at h
  | k + 1, u :: us, h => by simp only [List.replicate_succ, VL]; exact ⟨u, us, rfl, by simp only [V], junk_VL (by simpa using h)⟩
theorem junk_VLL {E : Env} {k : Nat} : ∀ {n : Nat} {rs : List (List Value)}, rs.length = n → (∀ r ∈ rs, r.length = k) → VLL E (List.replicate n (List.replicate k .junk)) rs
  | 0, rs, h, _ => by simp only [List.replicate_zero, VLL]; exact List.eq_nil_of_length_eq_zero h
  | n + 1, [], h, _ => by simp at h
  | n + 1, r :: rs, h, hr => by
    simp only [List.replicate_succ, VLL]
    exact ⟨r, rs, rfl, junk_VL (hr r (List.mem_cons_self ..)), junk_VLL (by simpa using h) (fun q hq => hr q (List.mem_cons_of_mem _ hq))⟩
set_option maxRecDepth 20000 in
theorem run_appendZ {t t' ty El : TypeId} {k bt : Nat} [h : SlT P t El k bt] {ik : IntKind} (hik : P.underlying t' = some (.int ik)) {n : Nat} (h0 : 0 < n) (hn : n ≤ 2147483648) (hb : n * bt ≤ 140737488355328) (w : World) :
    ∃ (c : Nat) (cur : List Value), n ≤ c ∧ c ≤ maxLen ∧ cur.length = c * k ∧ (Builtin.append_ #[t, t'] ty #[.slice none 0 0, .int .i64 (n : Int)]).run P w = .ok (.slice (some ⟨w.heap.size, 0, none⟩) n c) (w.drew.alloc (.cells cur.toArray El)) := by
  obtain ⟨i0, z0, hi0, hz0, hk0, hb0, hzs0⟩ := h.ex
  have hge := grownCap_ge w n 0 El
  have hcm : grownCap w n 0 El ≤ maxLen := grownCap_le_maxLen w n 0 El (by simp only [maxLen]; omega)
  have hpos : 0 < k := h.hpos
  refine ⟨grownCap w n 0 El, (Builtin.zeroCells z0.cells n).toList ++ (Builtin.zeroCells z0.cells (grownCap w n 0 El - n)).toList, hge, hcm, ?_, ?_⟩
  · simp only [List.length_append, Array.length_toList, size_zeroCells, hzs0, ← Nat.add_mul]
    congr 1; omega
  have hn0 : n ≠ 0 := by omega
  have hnn : ¬ ((n : Int) < 0) := by omega
  have h63' : ¬ (9223372036854775807 < (n : Int)) := by omega
  have h48 : ¬ (281474976710656 < (n : Int) * (i0.bytes : Int)) := by
    rw [hb0, ← Int.natCast_mul]
    generalize n * bt = m at hb
    omega
  have h48' : ¬ (281474976710656 < Builtin.nextslicecap n 0 * i0.bytes) := by rw [nextslicecap_zero h0, hb0]; omega
  have hw : IntKind.i64.wrap (n : Int) = (n : Int) := IntWalk.i64_in _ ⟨by omega, by omega⟩
  have hnk' : ¬ (n * k = 0) := by intro hh; rcases Nat.mul_eq_zero.1 hh with h1 | h1 <;> omega
  simp [Builtin.append_, run_underlying h.hu, run_underlying hik, sizeOf, typeInfo, zeroValue, hi0, hz0, asInt, asIntOf, hw, hnn, h48, hn0, h63', h48', Question.forced, run_firstCells_none, newRow, grownCap, hk0, hnk']
  congr 2
  apply Array.ext'
  simp
theorem opt_appendZ {t t' El : TypeId} {k bt : Nat} [h : SlT P t El k bt] {ik : IntKind} (hik : P.underlying t' = some (.int ik)) {x y : Operand} (hx : Go.Proofs.YtlghgdgpbnlpmaaGreat.ev F x = .slice none 0 0) {n : Nat} (hy : Go.Proofs.YtlghgdgpbnlpmaaGreat.ev F y = .int .i64 (n : Int)) (h0 : 0 < n) (hn : n ≤ 2147483648) (hb : n * bt ≤ 140737488355328) {H : Hp} :
    Opt P e (.call { callee := .builtin .append, args := #[x, y], argTypes := #[t, t'] }) F H L (fun v' H' L' => ∃ (b c : Nat) (rs : List (List Value)), v' = .slice (some ⟨b, 0, none⟩) n c ∧ n ≤ c ∧ H' = H ∧ rs.length = n ∧ (∀ r ∈ rs, r.length = k) ∧ L' = .row v' El k rs :: L) :=
  ⟨fun ac o w K Q ho hop hs hK => by
    have hxs : ac.eval x = .slice none 0 0 := (hop x (by simp [Op.operands, Call.operands])).trans hx
    have hys : ac.eval y = .int .i64 (n : Int) := (hop y (by simp [Op.operands, Call.operands])).trans hy
    obtain ⟨c, cur, hc, hcm, hcl, hrun⟩ := run_appendZ (P := P) (t := t) (t' := t') (ty := o.type) hik h0 hn hb w
    have hnl : n * k ≤ cur.length := by rw [hcl]; exact Nat.mul_le_mul_right _ hc
    obtain ⟨rs, h1, h2, h3⟩ := chunks k n (cur.take (n * k)) (by rw [List.length_take]; omega)
    have hr2 : (execOp ac.eval o).run P w = .ok (.value (.slice (some ⟨w.heap.size, 0, none⟩) n c)) (w.drew.alloc (.cells cur.toArray El)) := by
      unfold execOp; rw [ho]
      simp only [resolve, invoke, builtin, Sem.run_bind, Sem.run_pure, Result.andThen_ok, List.map_toArray, List.map_cons, List.map_nil, hxs, hys, hrun]
    have hs' := hs.drew.alloc cur.toArray El
    have hfl : rs.flatten.length = n * k := by rw [h1, List.length_take]; omega
    unfold Oper.wp
    rw [hr2]
    refine hK _ _ H _ ?_ ⟨_, c, rs, rfl, hc, rfl, h2, h3, rfl⟩
    have hh := hs'.change (i := 0) (p := .blk w.heap.size cur El) (q := .row (.slice (some ⟨w.heap.size, 0, none⟩) n c) El k rs) (w' := w.drew.alloc (.cells cur.toArray El)) (by simp) rfl rfl rfl (Nat.le_refl _) (fun _ _ _ => rfl)
      ⟨⟨by rw [hfl, h2], .inr ⟨w.heap.size, c, cur.toArray, by rw [h2], Nat.zero_le _, heap_alloc_new w.drew _, by omega, hcm, by simpa using hcl, by show List.take (rs.length * k) cur = _; rw [h2, h1]⟩⟩, h3⟩
      (fun b hb => .inl (by simpa [Piece.hasB, Value.ownBlock] using hb))
    simpa using hh⟩
theorem ownsRow_take {w : World} {El k n c hh : Nat} {a : Option Addr} {rows : List (List Value)} (h : w.ownsRow 0 El k (.slice a n c) rows.length rows.flatten) (hk : ∀ r ∈ rows, r.length = k) (hn : n = rows.length) (hle : hh ≤ n) : w.ownsRow 0 El k (.slice a hh c) (rows.take hh).length (rows.take hh).flatten := by
  have hl : (rows.take hh).length = hh := by rw [List.length_take]; omega
  have hf : (rows.take hh).flatten.length = hh * k := by rw [flatten_len _ (fun r hr => hk r (List.mem_of_mem_take hr)), hl]
  refine ⟨by rw [hf, hl], ?_⟩
  rcases h.2 with ⟨hv, h0⟩ | ⟨g, cap, cur, hv, h1, h2, h3, h4, h5, h6⟩
  · cases hv
    left
    have : hh = 0 := by omega
    subst this
    exact ⟨rfl, by simp⟩
  · cases hv
    right
    refine ⟨g, c, cur, by rw [hl], h1, h2, by omega, h4, h5, ?_⟩
    have hpre : ∃ t, rows.flatten = (rows.take hh).flatten ++ t := ⟨(rows.drop hh).flatten, by rw [← List.flatten_append, List.take_append_drop]⟩
    obtain ⟨t, ht⟩ := hpre
    have hle2 : hh * k ≤ rows.length * k := Nat.mul_le_mul_right _ (by omega)
    have : cur.toList.take (hh * k) = (cur.toList.take (rows.length * k)).take (hh * k) := by
      rw [List.take_take]; congr 1; omega
    rw [hl, this, h6, ht, ← hf, List.take_left]
theorem bq_nilq {ty : Nat → TyI} (ht : ∀ T, TyOk P T (ty T)) {k : AV → AS → Prop} {T T' : TypeId} {x y : Operand} (h : bq P ty s k (.binOp .eql T x y T')) (hr : RS E s F L) :
    Opt P e (.binOp .eql T x y T') F E.H L (fun v' H' L' => ∃ E' s1 v, E'.H = H' ∧ E.le E' ∧ RS E' s1 F L' ∧ V E' v v' ∧ k v s1) := by
  simp only [bq] at h
  have hx := hr.ev x
  have hy := hr.ev y
  split at h
  · rename_i n rows e1 e2
    rw [e1] at hx
    rw [e2] at hy
    simp only [V] at hx hy
    obtain ⟨a, c, kk, hv, hn, -, -, hVR⟩ := hx
    split at h
    · rename_i el hel
      obtain ⟨El, k0, b0⟩ := el
      have hsl := (ht T).el _ _ _ hel
      refine (opt_rv (bin_run (r := .bool a.isNone) hv hy (fun w => by simp [eqGuard]) (fun w => Go.Lib.run_eql_slice_nil w T El a n c 0 0 hsl.hu))).mono ?_
      rintro v' H' L' ⟨rfl, rfl, rfl⟩
      refine ⟨E, s, .bool a.isNone, rfl, Env.le.refl E, hr, by simp only [V], h.run _ fun hb => ?_⟩
      cases rows with
      | nil => simpa using hn
      | cons r rs =>
        simp only [VR] at hVR
        obtain ⟨⟨ad, us, ha, -⟩, -⟩ := hVR
        rw [ha] at hb
        cases hb
    · cases h
  · cases h
theorem bq_slice {ty : Nat → TyI} (ht : ∀ T, TyOk P T (ty T)) {k : AV → AS → Prop} {T : TypeId} {x : Operand} {lo hi : Option Operand} (h : bq P ty s k (.slice T x lo hi none)) (hr : RS E s F L) :
    Opt P e (.slice T x lo hi none) F E.H L (fun v' H' L' => ∃ E' s1 v, E'.H = H' ∧ E.le E' ∧ RS E' s1 F L' ∧ V E' v v' ∧ k v s1) := by
  simp only [bq] at h
  have hx := hr.ev x
  split at h
  · rename_i lo' hi' e1 e2
    split at h
    · rename_i El kk bt hel
      have := (ht T).el _ _ _ hel
      split at h
      · rename_i id n hb
        rw [hb] at hx
        split at h
        · rename_i i id' El' k' rows hp
          split at h
          · rename_i hc
            simp only [Bool.and_eq_true] at hc
            have c1 := Nat.eq_of_beq_eq_true hc.1
            have c2 := Nat.eq_of_beq_eq_true hc.2
            subst c1; subst c2
            have hbnd : ∀ {o : Option Operand} {b : Option Int}, optI s o = some b → (o = none ∧ b = none) ∨ ∃ y ik i, o = some y ∧ Go.Proofs.YtlghgdgpbnlpmaaGreat.ev F y = .int ik i ∧ b = some i := by
              intro o b hb
              cases o with
              | none => simp only [optI, Option.some.injEq] at hb; exact .inl ⟨rfl, hb.symm⟩
              | some y =>
                simp only [optI] at hb
                split at hb
                · rename_i ik i hy
                  have := hr.ev y
                  rw [hy] at this
                  cases hb
                  exact .inr ⟨y, ik, i, rfl, V_int this, rfl⟩
                · cases hb
            rcases h with h | h | h
            rotate_left
            · obtain ⟨l, hh, h1, h2, h3, h4, h5, hk⟩ := h.ex
              simp only [V] at hx
              obtain ⟨g1, hxe, a, c, hx, g2, g3⟩ := hx
              obtain ⟨b, rfl⟩ := g2 h5
              refine (opt_rv (v_slice (P := P) (e := e) (F := F) (H := E.H) (L := L) (T := T) (x := x) (n := n) (c := c) (l := l) (h := hh) hx (hbnd e1) (hbnd e2) h1 (by rw [h2]) h3 (by omega))).mono ?_
              rintro v' H' L' ⟨rfl, rfl, rfl⟩
              refine ⟨E, s, _, rfl, Env.le.refl E, hr, ?_, hk c g3⟩
              simp only [V]
              exact ⟨g1, b, n, _, hxe.symm.trans hx, rfl, by omega, fun hl => by rw [if_neg (by omega)]; rfl, fun hw => by cases hw⟩
            · obtain ⟨l, hh, h1, h2, h3, h4, hk⟩ := h.ex
              simp only [V] at hx
              obtain ⟨g1, hxe, a, c, hx, g2, g3⟩ := hx
              refine (opt_rv (v_slice (P := P) (e := e) (F := F) (H := E.H) (L := L) (T := T) (x := x) (n := n) (c := c) (l := l) (h := hh) hx (hbnd e1) (hbnd e2) h1 (by rw [h2]) h3 (by omega))).mono ?_
              rintro v' H' L' ⟨rfl, rfl, rfl⟩
              exact ⟨E, s, .junk, rfl, Env.le.refl E, hr, by simp only [V], hk⟩
            obtain ⟨hh, g1, g2, g3, hk⟩ := h.ex
            obtain ⟨hid, hi0, q, hq, hvp⟩ := pos_spec hr.h hp
            simp only [AP.id] at hid
            subst hid
            simp only [VP] at hvp
            obtain ⟨hlt, ⟨a', c', hg'⟩, rs, rfl, hrs⟩ := hvp
            simp only [V] at hx
            obtain ⟨_, hxe, a, c, hg, hb2⟩ := hx
            rw [hg] at hxe

            have hlen := VLL_len hrs
            rw [← hxe] at hq
            refine ⟨fun ac o w K Q ho hop hs hK => ?_⟩
            obtain ⟨hown, hlens⟩ := hs.holds _ (List.mem_of_getElem? hq)
            obtain ⟨a2, c2, e3, hnc, hcm, _⟩ := own_form hown
            cases e3
            have hv := v_slice (P := P) (e := e) (F := F) (H := E.H) (L := L) (T := T) (x := x) (a := a) (n := rs.length) (c := c) (l := 0) (h := hh) hg (hbnd e1) (hbnd e2) (by simpa using g1) g2 (Nat.zero_le _) (by omega)
            have ha0 : (if c = 0 then a else a.map (·.add (0 * kk))) = a := by
              split
              · rfl
              · cases a <;> simp [Addr.add]
            rw [ha0, Nat.sub_zero, Nat.sub_zero] at hv
            have hrun := hv.run ac.eval o w ho (fun y hy => hop y hy) hs
            unfold Oper.wp
            rw [hrun]
            have htk := ownsRow_take hown hlens rfl g3
            have hs' := hs.change (q := .row (.slice a hh c) El kk (rs.take hh)) (w' := w) hq rfl rfl rfl (Nat.le_refl _) (fun _ _ _ => rfl) ⟨htk, fun r hr' => hlens r (List.mem_of_mem_take hr')⟩ (fun b hb3 => by
              left
              cases a with
              | none => simp [Piece.hasB, Value.ownBlock] at hb3
              | some ad => simpa [Piece.hasB, Value.ownBlock] using hb3)
            refine hK _ _ _ _ hs' ⟨E.addG (.slice a hh c), _, _, rfl, E.addG_le _, hr.grow (E.addG_le _) (by simp only [Env.addG, hr.nx]) (VH_set ?_ (VH_mono (E.addG_le _) hr.h) i), ?_, hk⟩
            · simp only [VP]
              exact ⟨by simp only [Env.addG, hr.nx]; omega, ⟨a, c, by rw [← hr.nx, E.addG_at, List.length_take]; congr 1; omega⟩, _, by rw [← hr.nx, E.addG_at], VLL_take hrs hh⟩
            · simp only [V]
              exact ⟨by simp only [Env.addG, hr.nx]; omega, by rw [← hr.nx, E.addG_at], _, _, rfl, fun h0 => hb2.1 (by omega), by omega⟩
          · cases h
        · cases h
      · cases h
    · cases h
  · cases h
theorem bq_append {ty : Nat → TyI} (ht : ∀ T, TyOk P T (ty T)) {k : AV → AS → Prop} {xs : Array Operand} {ts : Array TypeId} (h : bq P ty s k (.call { callee := .builtin .append, args := xs, argTypes := ts })) (hr : RS E s F L) :
    Opt P e (.call { callee := .builtin .append, args := xs, argTypes := ts }) F E.H L (fun v' H' L' => ∃ E' s1 v, E'.H = H' ∧ E.le E' ∧ RS E' s1 F L' ∧ V E' v v' ∧ k v s1) := by
  simp only [bq] at h
  split at h
  · rename_i x y t t' e1 e2
    have e1 := toL e1
    have e2 := toL e2
    subst e1; subst e2
    have hx := hr.ev x
    have hy := hr.ev y
    split at h
    · rename_i El kk bt hel
      have := (ht t).el _ _ _ hel
      split at h
      · rename_i hit
        obtain ⟨ik, hik⟩ := (ht t').it hit
        split at h
        · rename_i i e1 e2
          rw [e1] at hx; rw [e2] at hy
          split at h
          · rename_i hc
            simp only [Bool.and_eq_true] at hc
            obtain ⟨n, rfl, h0, hn, hk⟩ := h.ex
            simp only [V] at hx
            have hmul : n * bt ≤ 140737488355328 := Nat.le_trans (Nat.mul_le_mul hn (Nat.le_of_ble_eq_true hc.1)) (by decide)
            refine (opt_appendZ (t := t) (P := P) (e := e) hik hx (V_int hy) h0 hn hmul).mono ?_
            rintro v' H' L' ⟨b, c, rs, rfl, hnc, rfl, hl1, hl2, rfl⟩
            refine ⟨E.addG (.slice (some ⟨b, 0, none⟩) n c), _, _, rfl, E.addG_le _, hr.grow (E.addG_le _) (by simp only [Env.addG, hr.nx]) ?_, ?_, hk⟩
            · simp only [VH]
              refine ⟨_, L, rfl, ?_, VH_mono (E.addG_le _) hr.h⟩
              simp only [VP]
              exact ⟨by simp only [Env.addG, hr.nx]; omega, ⟨_, _, by rw [← hr.nx, E.addG_at, List.length_replicate]⟩, rs, by rw [← hr.nx, E.addG_at], junk_VLL hl1 hl2⟩
            · simp only [V]
              exact ⟨by simp only [Env.addG, hr.nx]; omega, by rw [← hr.nx, E.addG_at], _, _, rfl, fun _ => ⟨b, rfl⟩, by omega⟩
          · cases h
        · cases h
      split at h
      · rename_i i n rows n' rows' hd hsrc hc
        simp only [Bool.and_eq_true] at hc
        obtain ⟨c1, c2, c3⟩ := hc
        have := Nat.eq_of_beq_eq_true c1
        subst this
        obtain ⟨hok, hlen, hk⟩ := h
        obtain ⟨hn', rs', hvl', hsr⟩ := srcA_spec hsrc hr hy hok
        obtain ⟨hn, hcase⟩ := dstA_spec hd hr hx
        have hall := VLL_all hvl' hok
        have hl' := VLL_len hvl'
        have hbt := Nat.le_of_ble_eq_true c2
        have h1c : ∀ c ∈ rs'.flatten, c.oneCell' = true := fun c hc => by
          obtain ⟨r, hr1, hcr⟩ := List.mem_flatten.1 hc
          exact List.all_eq_true.1 (hall r hr1).2 c hcr
        -- what follows, at a piece that is owned
        have main : ∀ (i0 : Nat) (rs : List (List Value)) (L1 : List Piece), L1[i0]? = some (.row (Go.Proofs.YtlghgdgpbnlpmaaGreat.ev F x) El kk rs) → VLL (Env.fz E.H) rows rs → RSrc E.H L1 (Go.Proofs.YtlghgdgpbnlpmaaGreat.ev F y) kk rs' →
            Opt P e (.call { callee := .builtin .append, args := #[x, y], argTypes := #[t, t] }) F E.H L1 (fun v' H' L' => ∃ a c, v' = .slice a (n + n') c ∧ ((0 < n + n' → ∃ g, a = some ⟨g, 0, none⟩) ∧ n + n' ≤ c) ∧ H' = E.H ∧ L' = L1.set i0 (.row v' El kk (rs ++ rs'))) := by
          intro i0 rs L1 hL1 hvl hsr1
          have hl := VLL_len hvl
          have hmul : (rs.length + rs'.length) * bt ≤ 140737488355328 := Nat.le_trans (Nat.mul_le_mul (show rs.length + rs'.length ≤ 2147483648 by omega) hbt) (by decide)
          refine (opt_append (t := t) (P := P) (e := e) i0 rfl hL1 rfl hsr1 h1c (by simp only [maxLen]; omega) hmul).mono ?_
          rintro v' H' L' ⟨a, c, h1, hle, _, h4, h5, h6⟩
          rw [show rs.length + rs'.length = n + n' by omega] at h1 h4 hle
          exact ⟨a, c, h1, ⟨h4, hle⟩, h5, h6⟩
        have fin : ∀ (v' : Value) (a : Option Addr) (c : Nat) (h' : List AP) (L' : List Piece), v' = .slice a (n + n') c → ((0 < n + n' → ∃ g, a = some ⟨g, 0, none⟩) ∧ n + n' ≤ c) → VH (E.addG v') h' L' → h' = setP s.h i (.row s.nx El kk (rows ++ rows')) →
            ∃ E' s1 v, E'.H = E.H ∧ E.le E' ∧ RS E' s1 F L' ∧ V E' v v' ∧ k v s1 := by
          intro v' a c h' L' hv' hb hh he
          subst he
          exact ⟨E.addG v', _, _, rfl, E.addG_le _, hr.grow (E.addG_le _) (by simp only [Env.addG, hr.nx]) hh, by simp only [V]; exact ⟨by simp only [Env.addG, hr.nx]; omega, by rw [← hr.nx, E.addG_at], a, c, hv', hb⟩, hk⟩
        have piece : ∀ (v' : Value) (a : Option Addr) (c : Nat) (rs : List (List Value)), v' = .slice a (n + n') c → VLL (Env.fz E.H) rows rs → VP (E.addG v') (.row s.nx El kk (rows ++ rows')) (.row v' El kk (rs ++ rs')) := by
          intro v' a c rs hv' hvl
          simp only [VP]
          exact ⟨by simp only [Env.addG, hr.nx]; omega, ⟨a, c, by rw [← hr.nx, E.addG_at, hv', List.length_append, hn, hn']⟩, rs ++ rs', by rw [← hr.nx, E.addG_at], VLL_append hvl hvl'⟩
        rcases hcase with ⟨rfl, rfl, hu⟩ | ⟨i0, rs, rfl, hL0, hvl⟩
        · have hO := main 0 [] (.row (Go.Proofs.YtlghgdgpbnlpmaaGreat.ev F x) El kk [] :: L) rfl (by simp only [VLL]) ⟨hsr.lens, by
            obtain ⟨a, c, h1, h2⟩ := hsr.at_
            exact ⟨a, c, h1, fun e w hs => h2 e w (hs.sub (List.sublist_cons_self ..))⟩⟩
          refine ⟨fun a o w K Q ho hop hs hK => hO.run a o w K Q ho hop (by rw [hu]; exact hs.nilrow El kk) fun v' w' H' L' hs' ⟨a1, c1, h1, h2, h3, h4⟩ => ?_⟩
          refine hK v' w' H' L' hs' ?_
          subst h3
          have hL' : L' = .row v' El kk rs' :: L := by rw [h4]; rfl
          subst hL'
          refine fin v' a1 c1 _ _ h1 h2 ?_ rfl
          simp only [setP, VH]
          exact ⟨_, L, rfl, by simpa using piece v' a1 c1 [] h1 (by simp only [VLL]), VH_mono (E.addG_le _) hr.h⟩
        · refine (main i0 rs L hL0 hvl hsr).mono ?_
          rintro v' H' L' ⟨a1, c1, h1, h2, rfl, rfl⟩
          exact fin v' a1 c1 _ _ h1 h2 (VH_set (piece v' a1 c1 rs h1 hvl) (VH_mono (E.addG_le _) hr.h) i0) rfl
      · cases h
    · cases h
  · cases h
end sound
end Go.Proofs.YtlghgdgpbnlpmaaGreat
