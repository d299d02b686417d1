/- What is proved: what operations that only answer do over abstract values. Conditions: none. -/
import Derived.Test.YtlghgdgpbnlpmaaGreatAs
namespace Go.Proofs.YtlghgdgpbnlpmaaGreat
open Go.RowKit

def kEq : IntKind → IntKind → Bool
  | .i8, .i8 | .i16, .i16 | .i32, .i32 | .i64, .i64 | .u8, .u8 | .u16, .u16 | .u32, .u32 | .u64, .u64 => true
  | _, _ => false
theorem kEq_eq {a b : IntKind} (h : kEq a b = true) : a = b := by cases a <;> cases b <;> first | rfl | simp [kEq] at h
def cmpI (op : BinOp) (m n : Int) : Option Bool :=
  match op with
  | .lss => some (decide (m < n))
  | .leq => some (decide (m ≤ n))
  | .gtr => some (decide (n < m))
  | .geq => some (decide (n ≤ m))
  | .eql => some (m == n)
  | .neq => some (m != n)
  | _ => none
def cmpS (op : BinOp) (s t : ByteArray) : Option Bool :=
  match op with
  | .eql => some (s.toList == t.toList)
  | .neq => some (!(s.toList == t.toList))
  | .lss => some (Op.bytesLess s.toList t.toList)
  | .gtr => some (!(Op.bytesLess s.toList t.toList || s.toList == t.toList))
  | .leq => some (Op.bytesLess s.toList t.toList || s.toList == t.toList)
  | .geq => some (!Op.bytesLess s.toList t.toList)
  | _ => none
def eqAC : Ck → AV → AV → Option Bool
  | .i k, .int k1 a, .int k2 c => bif kEq k1 k && kEq k2 k then some (a == c) else none
  | .b, .bool a, .bool c => some (a == c)
  | .s, .str a, .str c => some (a.toList == c.toList)
  | _, _, _ => none
def eqAL : List Ck → List AV → List AV → Option Bool
  | [], [], [] => some true
  | k :: ss, u :: us, v :: vs =>
    match eqAC k u v, eqAL ss us vs with
    | some a, some r => some (a && r)
    | _, _ => none
  | _, _, _ => none
def isPtr : AV → Bool
  | .fp _ _ | .op _ _ | .orp _ _ _ _ => true
  | _ => false
def eqB (op : BinOp) (b : Bool) : Option Bool :=
  match op with
  | .eql => some b
  | .neq => some (!b)
  | _ => none
def isNilp : AV → Bool
  | .nilp => true
  | _ => false
def isNf : AV → Bool
  | .nilfn => true
  | _ => false
def isFn : AV → Bool
  | .fn _ _ => true
  | _ => false
/-- against nil -/
def nilA (nl : Nat) (x y : AV) : Option Bool :=
  bif Nat.beq nl 1 then
    bif isNilp y then (bif isNilp x then some true else bif isPtr x then some false else none) else bif isNilp x && isPtr y then some false else none
  else bif Nat.beq nl 2 then
    bif isNf y then (bif isNf x then some true else bif isFn x then some false else none) else bif isNf x && isFn y then some false else none
  else none
def binA (ti : TyI) (op : BinOp) (x y : AV) : Option Bool :=
  match x, y with
  | .int k m, .int k' n => bif kEq k k' then cmpI op m n else none
  | .bool b, .bool c => bif ti.bo then eqB op (b == c) else none
  | .str s, .str t => cmpS op s t
  | .agg us, .agg vs => match ti.eq with
    | some sh => (match eqAL sh us vs with | some b => eqB op b | none => none)
    | none => none
  | x, y => match nilA ti.nl x y with
    | some b => eqB op b
    | none => none
def bitsI (op : BinOp) (k : IntKind) (m n : Int) : Int :=
  match op with
  | .xor => ((BitVec.ofInt k.bits m ^^^ BitVec.ofInt k.bits n).toNat : Int)
  | .and => ((BitVec.ofInt k.bits m &&& BitVec.ofInt k.bits n).toNat : Int)
  | .or => ((BitVec.ofInt k.bits m ||| BitVec.ofInt k.bits n).toNat : Int)
  | _ => 0
def arA (op : BinOp) (x y : AV) : Option (IntKind × Int) :=
  match op, x, y with
  | .add, .int k m, .int k' n => bif kEq k k' then some (k, m + n) else none
  | .sub, .int k m, .int k' n => bif kEq k k' then some (k, m - n) else none
  | .mul, .int k m, .int k' n => bif kEq k k' then some (k, m * n) else none
  | .xor, .int k m, .int k' n => bif kEq k k' then some (k, bitsI .xor k m n) else none
  | .and, .int k m, .int k' n => bif kEq k k' then some (k, bitsI .and k m n) else none
  | .or, .int k m, .int k' n => bif kEq k k' then some (k, bitsI .or k m n) else none
  | _, _, _ => none
/-- what is left of a division -/
structure VRm (n : Int) (k : Prop) : Prop where
  ne : n ≠ 0
  k : k
/-- to the right by a number that is known; what is left of a division -/
def shA (op : BinOp) (x y : AV) (K : AV → Prop) : Prop :=
  match op, x, y with
  | .shr, .int k m, .int _ (.ofNat s) => (match Nat.ble s k.bits with | true => K (.int k (m / ((2 ^ s : Nat) : Int))) | false => False)
  | .rem, .int k m, .int k' n => (match kEq k k' with | true => VRm n (K (.int k (m.tmod n))) | false => False)
  | _, _, _ => False
def getNA (cs : List AV) : Nat → Nat → Option (List AV)
  | _, 0 => some []
  | off, k + 1 => match cs[off]?, getNA cs (off + 1) k with
    | some u, some r => some (u :: r)
    | _, _ => none
def ldA (ti : TyI) (cs : List AV) (off : Nat) : Option AV :=
  bif ti.agg then (match getNA cs off ti.k with | some us => some (.agg us) | none => none) else bif Nat.beq ti.k 1 then cs[off]? else none
def cellsA : AV → List AV
  | .agg cs => cs
  | v => [v]
/-- is it one cell, or cells? -/
def solid : AV → Bool
  | .tup _ | .junk | .undef => false
  | _ => true
def spliceO : List AV → Nat → List AV → List AV
  | cs, _, [] => cs
  | cs, off, u :: us => spliceO (cs.set off u) (off + 1) us
def spliceA : List AV → Nat → List AV → List AV
  | [], _, _ => []
  | c :: cs, 0, [] => c :: cs
  | _ :: cs, 0, u :: us => u :: spliceA cs 0 us
  | c :: cs, off + 1, us => c :: spliceA cs off us
theorem spliceO_nil : ∀ (us : List AV) (off : Nat), spliceO [] off us = []
  | [], _ => rfl
  | u :: us, off => by rw [spliceO, List.set_nil]; exact spliceO_nil us (off + 1)
theorem spliceO_cons (c : AV) : ∀ (us cs : List AV) (off : Nat), spliceO (c :: cs) (off + 1) us = c :: spliceO cs off us
  | [], _, _ => rfl
  | u :: us, cs, off => by rw [spliceO, spliceO, List.set_cons_succ]; exact spliceO_cons c us (cs.set off u) (off + 1)
theorem spliceA_eq : ∀ (cs : List AV) (off : Nat) (us : List AV), spliceA cs off us = spliceO cs off us
  | [], off, us => by rw [spliceA, spliceO_nil]
  | c :: cs, 0, [] => rfl
  | c :: cs, 0, u :: us => by rw [spliceA, spliceO, List.set_cons_zero, spliceO_cons, spliceA_eq cs 0 us]
  | c :: cs, off + 1, us => by rw [spliceA, spliceO_cons, spliceA_eq cs off us]
def fillA (pl : List (Nat × Nat)) : List AV → List (Nat × AV) → Option (List AV)
  | cs, [] => some cs
  | cs, (i, v) :: r =>
    match pl[i]? with
    | none => none
    | some (off, size) => bif solid v && (Nat.beq (cellsA v).length size && Nat.ble (off + size) cs.length) then fillA pl (spliceA cs off (cellsA v)) r else none
def partsA (s : AS) : List (Nat × Operand) → List (Nat × AV)
  | [] => []
  | (i, x) :: r => (i, evA s x) :: partsA s r
def evLA (s : AS) : List Operand → List AV
  | [] => []
  | x :: r => evA s x :: evLA s r
theorem evLA_eq (s : AS) : ∀ xs : List Operand, evLA s xs = xs.map (evA s)
  | [] => rfl
  | x :: r => by rw [evLA, evLA_eq s r]; rfl

/-! values are worked out before they are kept -/
def fcI (n : Nat) (k : Nat → Prop) : Prop :=
  match n with
  | 0 => k 0
  | 1 => k 1
  | 2 => k 2
  | 3 => k 3
  | 4 => k 4
  | 5 => k 5
  | 6 => k 6
  | 7 => k 7
  | 8 => k 8
  | 9 => k 9
  | 10 => k 10
  | 11 => k 11
  | 12 => k 12
  | 13 => k 13
  | 14 => k 14
  | 15 => k 15
  | 16 => k 16
  | 17 => k 17
  | m + 18 => k (m + 18)
theorem fcI_self {n : Nat} {k : Nat → Prop} (h : fcI n k) : k n := by
  unfold fcI at h
  split at h <;> exact h
def fc0 (v : AV) (k : AV → Prop) : Prop :=
  match v with
  | .int a b => k (.int a b)
  | .bool b => k (.bool b)
  | .str b => k (.str b)
  | .agg cs => k (.agg cs)
  | .tup cs => k (.tup cs)
  | .fn f cs => k (.fn f cs)
  | .nilfn => k .nilfn
  | .lst n rows => k (.lst n rows)
  | .nils => k .nils
  | .own id n => fcI id fun id => k (.own id n)
  | .fp cs off => k (.fp cs off)
  | .op id off => fcI id fun id => fcI off fun off => k (.op id off)
  | .orp id a j off => fcI id fun id => fcI off fun off => k (.orp id a j off)
  | .sub id a lo n C w => fcI id fun id => k (.sub id a lo n C w)
  | .nilp => k .nilp
  | .junk => k .junk
  | .undef => k .undef
  | .sval a n c => k (.sval a n c)
def fcC : List AV → (List AV → Prop) → Prop
  | [], k => k []
  | v :: l, k => fc0 v fun v => fcC l fun l => k (v :: l)
def fc1 (v : AV) (k : AV → Prop) : Prop :=
  match v with
  | .agg cs => fcC cs fun cs => k (.agg cs)
  | v => fc0 v k
def fcT : List AV → (List AV → Prop) → Prop
  | [], k => k []
  | v :: l, k => fc1 v fun v => fcT l fun l => k (v :: l)
def fc (v : AV) (k : AV → Prop) : Prop :=
  match v with
  | .tup cs => fcT cs fun cs => k (.tup cs)
  | v => fc1 v k
def fcL : List AV → (List AV → Prop) → Prop
  | [], k => k []
  | v :: l, k => fc v fun v => fcL l fun l => k (v :: l)
theorem fc0_self {v : AV} {k : AV → Prop} (h : fc0 v k) : k v := by
  cases v
  case own id n => exact fcI_self (k := fun id => k (.own id n)) h
  case op id off => exact fcI_self (k := fun off => k (.op id off)) (fcI_self (k := fun id => fcI off fun off => k (.op id off)) h)
  case sub id a lo n C w => exact fcI_self (k := fun id => k (.sub id a lo n C w)) h
  case orp id a j off => exact fcI_self (k := fun off => k (.orp id a j off)) (fcI_self (k := fun id => fcI off fun off => k (.orp id a j off)) h)
  all_goals exact h
theorem fcC_self : ∀ {l : List AV} {k : List AV → Prop}, fcC l k → k l
  | [], _, h => h
  | v :: l, k, h => by rw [fcC] at h; exact fcC_self (k := fun l => k (v :: l)) (fc0_self h)
theorem fc1_self {v : AV} {k : AV → Prop} (h : fc1 v k) : k v := by
  cases v
  case agg cs => exact fcC_self (k := fun cs => k (.agg cs)) h
  all_goals exact fc0_self h
theorem fcT_self : ∀ {l : List AV} {k : List AV → Prop}, fcT l k → k l
  | [], _, h => h
  | v :: l, k, h => by rw [fcT] at h; exact fcT_self (k := fun l => k (v :: l)) (fc1_self h)
theorem fc_self {v : AV} {k : AV → Prop} (h : fc v k) : k v := by
  cases v
  case tup cs => exact fcT_self (k := fun cs => k (.tup cs)) h
  all_goals exact fc1_self h
theorem fcL_self : ∀ {l : List AV} {k : List AV → Prop}, fcL l k → k l
  | [], _, h => h
  | v :: l, k, h => by rw [fcL] at h; exact fcL_self (k := fun l => k (v :: l)) (fc_self h)
theorem fcI_in {n : Nat} {k : Nat → Prop} (h : k n) : fcI n k := by
  unfold fcI
  split <;> exact h
theorem fc0_in {v : AV} {k : AV → Prop} (h : k v) : fc0 v k := by
  cases v
  case own id n => exact fcI_in (k := fun id => k (.own id n)) h
  case op id off => exact fcI_in (k := fun id => fcI off fun off => k (.op id off)) (fcI_in (k := fun off => k (.op id off)) h)
  case sub id a lo n C w => exact fcI_in (k := fun id => k (.sub id a lo n C w)) h
  case orp id a j off => exact fcI_in (k := fun id => fcI off fun off => k (.orp id a j off)) (fcI_in (k := fun off => k (.orp id a j off)) h)
  all_goals exact h
theorem fcC_in : ∀ {l : List AV} {k : List AV → Prop}, k l → fcC l k
  | [], _, h => h
  | v :: l, k, h => by rw [fcC]; exact fc0_in (k := fun v => fcC l fun l => k (v :: l)) (fcC_in (k := fun l => k (v :: l)) h)
theorem fc1_in {v : AV} {k : AV → Prop} (h : k v) : fc1 v k := by
  cases v
  case agg cs => exact fcC_in (k := fun cs => k (.agg cs)) h
  all_goals exact fc0_in h
theorem fcT_in : ∀ {l : List AV} {k : List AV → Prop}, k l → fcT l k
  | [], _, h => h
  | v :: l, k, h => by rw [fcT]; exact fc1_in (k := fun v => fcT l fun l => k (v :: l)) (fcT_in (k := fun l => k (v :: l)) h)
theorem fc_in {v : AV} {k : AV → Prop} (h : k v) : fc v k := by
  cases v
  case tup cs => exact fcT_in (k := fun cs => k (.tup cs)) h
  all_goals exact fc1_in h
theorem fcL_in : ∀ {l : List AV} {k : List AV → Prop}, k l → fcL l k
  | [], _, h => h
  | v :: l, k, h => by rw [fcL]; exact fc_in (k := fun v => fcL l fun l => k (v :: l)) (fcL_in (k := fun l => k (v :: l)) h)
/-! what a walk has to show, by its kind -/
structure VS (b : Bool) (k : AV → Prop) : Prop where
  run : ∀ t, b = t → k (.bool t)
structure VWr (kk : IntKind) (z : Int) (k : AV → Prop) : Prop where
  ex : ∃ r, kk.wrap z = r ∧ k (.int kk r)
structure VIx (i : Int) (rows : List (List AV)) (kk : Nat) (k : AV → Prop) : Prop where
  ex : ∃ (j : Nat) (cs : List AV), i = (j : Int) ∧ rows[j]? = some cs ∧ cs.length = kk ∧ k (.fp cs 0)
structure VAt (i : Int) (N : Nat) (k : Nat → Prop) : Prop where
  ex : ∃ j : Nat, i = (j : Int) ∧ j < N ∧ k j
structure VRow (rows : List (List AV)) (j : Nat) (k : List AV → Prop) : Prop where
  ex : ∃ cs, rows[j]? = some cs ∧ k cs
def kx (v : AV) (k : AV → Prop) : Prop :=
  match v with
  | .bool b => VS b k
  | v => k v
/-- bounds of a slice expression, in their places -/
def optI (s : AS) : Option Operand → Option (Option Int)
  | none => some none
  | some x => match evA s x with
    | .int _ i => some (some i)
    | _ => none
def LenOk (kk : Nat) (rows : List (List AV)) : Prop := ∀ r ∈ rows, r.length = kk
structure VSl (lo hi : Option Int) (n kk : Nat) (rows : List (List AV)) (k : AV → Prop) : Prop where
  ex : ∃ (l h n' : Nat) (rows' : List (List AV)), lo.getD 0 = (l : Int) ∧ hi.getD n = (h : Int) ∧ l ≤ h ∧ h ≤ n ∧ LenOk kk rows ∧ n' = h - l ∧ rows' = (rows.take h).drop l ∧ k (.lst n' rows')
structure VSn (lo hi : Option Int) (k : Prop) : Prop where
  ex : lo.getD 0 = 0 ∧ hi.getD 0 = 0 ∧ k
structure VSv (lo hi : Option Int) (n c : Nat) (k : Nat → Nat → Prop) : Prop where
  ex : ∃ l h : Nat, lo.getD 0 = (l : Int) ∧ hi.getD n = (h : Int) ∧ l ≤ h ∧ h ≤ c ∧ k l h
structure VSw (lo hi : Option Int) (n : Nat) (k : Nat → Nat → Nat → Prop) : Prop where
  ex : ∃ l h : Nat, lo.getD 0 = (l : Int) ∧ hi.getD n = (h : Int) ∧ l ≤ h ∧ h ≤ n ∧ 0 < n ∧ ∀ C, n ≤ C → k l h C
structure VS3 (lo hi : Option Int) (n c : Nat) (m : Int) (k : Prop) : Prop where
  ex : ∃ l h j : Nat, lo.getD 0 = (l : Int) ∧ hi = some (h : Int) ∧ m = (j : Int) ∧ l ≤ h ∧ h ≤ j ∧ j ≤ c ∧ k
structure VCf (P : Program) (f : FuncId) (args : List AV) (k : AV → Prop) : Prop where
  ex : ∃ r u, AFnP P f args r ∧ flatV r = some u ∧ kx r k
theorem kx_self {v : AV} {k : AV → Prop} (h : kx v k) : k v := by
  cases v
  case bool b => exact h.run b rfl
  all_goals exact h
/-- an operation that only answers: k holds of what it answers -/
def hq (P : Program) (ty : Nat → TyI) (s : AS) (k : AV → Prop) : Op → Prop
  | .move x => k (evA s x)
  | .assign x => k (evA s x)
  | .pick c a b => match evA s c with
    | .bool t => (match t with | true => k (evA s a) | false => k (evA s b))
    | _ => False
  | .binOp op T x y _ => match arA op (evA s x) (evA s y) with
    | some (kk, z) => VWr kk z k
    | none => match binA (ty T) op (evA s x) (evA s y) with
      | some b => VS b k
      | none => shA op (evA s x) (evA s y) k
  | .unOp .not _ x => match evA s x with
    | .bool b => k (.bool (!b))
    | _ => False
  | .unOp .neg _ x => match evA s x with
    | .int kk m => VWr kk (0 - m) k
    | _ => False
  | .fieldAddr T x f => match (ty T).fo[f]? with
    | some o => (match evA s x with
      | .fp cs off => k (.fp cs (off + o))
      | .op id off => k (.op id (off + o))
      | .orp id kk j off => k (.orp id kk j (off + o))
      | _ => False)
    | none => False
  | .load T x => match evA s x with
    | .fp cs off => (match ldA (ty T) cs off with | some v => kx v k | none => False)
    | .op id off => (match pos id s.h with
      | some (_, .blk _ cs _) => (match ldA (ty T) cs off with | some v => kx v k | none => False)
      | _ => False)
    | .orp id kk j off => (match pos id s.h with
      | some (_, .row _ _ k' rows) => (match Nat.beq kk k' with
        | true => VRow rows j fun cs => (match ldA (ty T) cs off with | some v => kx v k | none => False)
        | false => False)
      | _ => False)
    | _ => False
  | .nilCheck x => match isPtr (evA s x) with
    | true => k (evA s x)
    | false => False
  | .extract x i => match evA s x with
    | .tup vs => (match vs[i]? with | some v => kx v k | none => False)
    | _ => False
  | .build T parts => match (ty T).bz with
    | some (zs, pl) => (match fillA pl (zs.map cv1) (partsA s parts.toList) with | some us => fcL us fun us => k (.agg us) | none => False)
    | none => False
  | .makeFunc (.func f) first xs => match first.toList with
    | [] => k (.fn f (evLA s xs.toList))
    | _ => False
  | .indexAddr T x y => match evA s x, evA s y with
    | .lst _ rows, .int _ i => (match (ty T).el with
      | some (_, kk, _) => VIx i rows kk k
      | none => False)
    | .own id n, .int _ i => (match (ty T).el with
      | some (_, kk, _) => VAt i n fun j => k (.orp id kk j 0)
      | none => False)
    | .fp cs off, .int _ i => (match (ty T).ar with
      | some (N, kk) => VAt i N fun j => k (.fp cs (off + j * kk))
      | none => False)
    | .op id off, .int _ i => (match (ty T).ar with
      | some (N, kk) => VAt i N fun j => k (.op id (off + j * kk))
      | none => False)
    | .orp id k0 j0 off, .int _ i => (match (ty T).ar with
      | some (N, kk) => VAt i N fun j => k (.orp id k0 j0 (off + j * kk))
      | none => False)
    | _, _ => False
  | .call { callee := .builtin .len, args := xs, argTypes := ts } => match xs.toList, ts.toList with
    | [x], [T] => (match evA s x with
      | .lst n _ => (match (ty T).el with | some _ => k (.int .i64 (n : Int)) | none => False)
      | .own _ n => (match (ty T).el with | some _ => k (.int .i64 (n : Int)) | none => False)
      | .sub _ _ _ n _ _ => (match (ty T).el with | some _ => k (.int .i64 (n : Int)) | none => False)
      | .nils => (match (ty T).el with | some _ => k (.int .i64 0) | none => False)
      | .str t => (match (ty T).st with | true => k (.int .i64 (t.size : Int)) | false => False)
      | _ => False)
    | _, _ => False
  | .slice T x lo hi none => match optI s lo, optI s hi with
    | some lo, some hi => (match (ty T).el with
      | some (_, kk, _) => (match evA s x with
        | .lst n rows => VSl lo hi n kk rows k
        | .nils => VSn lo hi (k .nils)
        | .sub id k0 lo0 n C _ => (match Nat.beq kk k0 with
          | true => VSv lo hi n (C - lo0) fun l h => k (.sub id k0 (lo0 + l) (h - l) C false)
          | false => False)
        | _ => False)
      | none => False)
    | _, _ => False
  | .call { callee := .builtin .cap, args := xs, argTypes := ts } => match xs.toList, ts.toList with
    | [x], [T] => (match evA s x with
      | .nils => (match (ty T).el with | some _ => k (.int .i64 0) | none => False)
      | .sub _ _ lo _ C _ => (match (ty T).el with | some _ => k (.int .i64 ((C - lo : Nat) : Int)) | none => False)
      | _ => False)
    | _, _ => False
  | .call { callee := .builtin .max, args := xs, argTypes := ts } => match xs.toList, ts.toList with
    | [x, y], [_, _] => (match evA s x, evA s y with
      | .int kk m, .int k' n => (match kEq kk k' with | true => k (.int kk (if n > m then n else m)) | false => False)
      | _, _ => False)
    | _, _ => False
  | .call { callee := .builtin .min, args := xs, argTypes := ts } => match xs.toList, ts.toList with
    | [x, y], [_, _] => (match evA s x, evA s y with
      | .int kk m, .int k' n => (match kEq kk k' with | true => k (.int kk (if n < m then n else m)) | false => False)
      | _, _ => False)
    | _, _ => False
  | .call { callee := .value g, args := xs, argTypes := _ } => match evA s g with
    | .fn f caps => VCf P f (trL (fz1 s.h) (evLA s xs.toList ++ caps)) k
    | _ => False
  | .index T x y => match evA s x, evA s y with
    | .agg cs, .int _ i => (match (ty T).ix with
      | some (N, kk, g) => VAt i N fun j => (match g with
        | true => (match getNA cs (j * kk) kk with | some us => k (.agg us) | none => False)
        | false => (match cs[j * kk]? with | some v => kx v k | none => False))
      | none => False)
    | _, _ => False
  | .convert S D x => match evA s x, (ty S).it, (ty D).ik with
    | .int _ m, true, some k' => VWr k' m k
    | _, _, _ => False
  | .slice T x lo hi (some mx) => match optI s lo, optI s hi, evA s mx with
    | some lo, some hi, .int _ m => (match (ty T).el with
      | some _ => (match evA s x with
        | .own _ n => VS3 lo hi n n m (k .junk)
        | .sub _ _ lo0 n C _ => VS3 lo hi n (C - lo0) m (k .junk)
        | _ => False)
      | none => False)
    | _, _, _ => False
  | _ => False

section sound
variable {P : Program} {e : Ent} {E : Env} {s : AS} {F : Slots} {L : List Piece}
theorem st_rv {op : Op} {u : Value} {H0 : Hp} {L0 : List Piece} {z : Bool} (h : ∀ H1 L1, Rv P e op F H1 L1 u) : StDet P e H0 L0 z op F u := fun H1 L1 _ => opt_rv (h H1 L1)
theorem V_int {k : IntKind} {n : Int} {v : Value} (h : V E (.int k n) v) : v = .int k n := by simpa only [V] using h
theorem V_bool {b : Bool} {v : Value} (h : V E (.bool b) v) : v = .bool b := by simpa only [V] using h
theorem V_str {b : ByteArray} {v : Value} (h : V E (.str b) v) : v = .string b := by simpa only [V] using h
theorem eqAL_spec : ∀ {sh : List Ck} {us vs : List AV} {b : Bool} {us' vs' : List Value}, eqAL sh us vs = some b → VL E us us' → VL E vs vs' → eqS sh us' vs' = some b
  | [], [], [], b, us', vs', h, h1, h2 => by simp only [VL] at h1 h2; subst h1; subst h2; simpa [eqAL, eqS] using h
  | [], [], _ :: _, b, us', vs', h, h1, h2 => by simp [eqAL] at h
  | [], _ :: _, _, b, us', vs', h, h1, h2 => by simp [eqAL] at h
  | _ :: _, [], _, b, us', vs', h, h1, h2 => by simp [eqAL] at h
  | _ :: _, _ :: _, [], b, us', vs', h, h1, h2 => by simp [eqAL] at h
  | k :: ss, u :: us, v :: vs, b, us', vs', h, h1, h2 => by
    simp only [VL] at h1 h2
    obtain ⟨u0, us0, rfl, h3, h4⟩ := h1
    obtain ⟨v0, vs0, rfl, h5, h6⟩ := h2
    rw [eqAL] at h
    cases ha : eqAC k u v with
    | none => rw [ha] at h; cases h
    | some a =>
      cases hr : eqAL ss us vs with
      | none => rw [ha, hr] at h; cases h
      | some r =>
        rw [ha, hr] at h
        cases h
        have hc : eqC k u0 v0 = some a := by
          cases k with
          | i k =>
            cases u <;> cases v <;> simp only [eqAC] at ha <;> try cases ha
            rename_i k1 a1 k2 a2
            cases hk : (kEq k1 k && kEq k2 k) with
            | false => rw [hk] at ha; cases ha
            | true =>
              rw [hk, cond_true] at ha
              simp only [Bool.and_eq_true] at hk
              rw [V_int h3, V_int h5, kEq_eq hk.1, kEq_eq hk.2]
              simpa [eqC] using ha
          | b =>
            cases u <;> cases v <;> simp only [eqAC] at ha <;> try cases ha
            rw [V_bool h3, V_bool h5]; rfl
          | s =>
            cases u <;> cases v <;> simp only [eqAC] at ha <;> try cases ha
            rw [V_str h3, V_str h5]; rfl
        rw [eqS, hc, eqAL_spec hr h4 h6]
theorem getNA_spec {cs : List AV} {us : List Value} (h : VL E cs us) : ∀ {k off : Nat} {al : List AV}, getNA cs off k = some al → ∃ vs, getN us off k = some vs ∧ VL E al vs
  | 0, off, al, ha => by cases ha; exact ⟨[], rfl, by simp only [VL]⟩
  | k + 1, off, al, ha => by
    rw [getNA] at ha
    cases h1 : cs[off]? with
    | none => rw [h1] at ha; cases ha
    | some a =>
      cases h2 : getNA cs (off + 1) k with
      | none => rw [h1, h2] at ha; cases ha
      | some r =>
        rw [h1, h2] at ha
        cases ha
        obtain ⟨u, hu, hv⟩ := VL_get h h1
        obtain ⟨vs, h3, h4⟩ := getNA_spec h h2
        exact ⟨u :: vs, by rw [getN, hu, h3], by simp only [VL]; exact ⟨u, vs, rfl, hv, h4⟩⟩
theorem ldA_spec {ti : TyI} {T : TypeId} (ht : TyOk P T ti) {cs : List AV} {us : List Value} (h : VL E cs us) {off : Nat} {a : AV} (ha : ldA ti cs off = some a) : ∃ u, V E a u ∧ ∀ {H : Hp} {L : List Piece} {A : Addr}, Src H L A us → Ld P H L T (A.add off) u := by
  unfold ldA at ha
  cases hg : ti.agg with
  | true =>
    rw [hg, cond_true] at ha
    cases h1 : getNA cs off ti.k with
    | none => rw [h1] at ha; cases ha
    | some al =>
      rw [h1] at ha
      cases ha
      obtain ⟨vs, h2, h3⟩ := getNA_spec h h1
      have := ht.ag hg
      exact ⟨.agg vs.toArray, by simp only [V]; exact ⟨vs, rfl, h3⟩, fun hs => ldag hs h2⟩
  | false =>
    rw [hg, cond_false] at ha
    cases hk : Nat.beq ti.k 1 with
    | false => rw [hk] at ha; cases ha
    | true =>
      rw [hk, cond_true] at ha
      obtain ⟨u, hu, hv⟩ := VL_get h ha
      have := ht.one hg (Nat.eq_of_beq_eq_true hk)
      exact ⟨u, hv, fun hs => ld1 hs hu⟩
theorem solid_cells {a : AV} {v : Value} (h : V E a v) (hs : solid a = true) : ∃ us : List Value, v.cells = us.toArray ∧ VL E (cellsA a) us := by
  have one : ∀ {a : AV} {v : Value}, V E a v → v.cells = #[v] → cellsA a = [a] → ∃ us : List Value, v.cells = us.toArray ∧ VL E (cellsA a) us :=
    fun {a v} h h1 h2 => ⟨[v], h1, by rw [h2]; simp only [VL]; exact ⟨v, [], rfl, h, rfl⟩⟩
  cases a with
  | agg cs => simp only [V] at h; obtain ⟨us, rfl, h2⟩ := h; exact ⟨us, rfl, h2⟩
  | tup cs => cases hs
  | junk => cases hs
  | undef => cases hs
  | int k n => exact one h (by rw [V_int h]; rfl) rfl
  | bool b => exact one h (by rw [V_bool h]; rfl) rfl
  | str b => exact one h (by rw [V_str h]; rfl) rfl
  | fn f cs => exact one h (by simp only [V] at h; obtain ⟨us, rfl, _⟩ := h; rfl) rfl
  | nilfn => exact one h (by simp only [V] at h; subst h; rfl) rfl
  | lst n rows => exact one h (by simp only [V] at h; obtain ⟨a, c, k, rfl, _⟩ := h; rfl) rfl
  | nils => exact one h (by simp only [V] at h; subst h; rfl) rfl
  | own id n => exact one h (by simp only [V] at h; obtain ⟨_, _, a, c, rfl, _⟩ := h; rfl) rfl
  | fp cs off => exact one h (by simp only [V] at h; obtain ⟨A, us, rfl, _⟩ := h; rfl) rfl
  | op id off => exact one h (by simp only [V] at h; obtain ⟨_, rfl⟩ := h; rfl) rfl
  | orp id k j off => exact one h (by simp only [V] at h; obtain ⟨_, b, n, c, _, rfl⟩ := h; rfl) rfl
  | sub id k lo n C w => exact one h (by simp only [V] at h; obtain ⟨_, b, N, a, _, rfl, _⟩ := h; rfl) rfl
  | nilp => exact one h (by simp only [V] at h; subst h; rfl) rfl
  | sval a n c => exact one h (by simp only [V] at h; subst h; rfl) rfl
theorem splice_VO : ∀ {al : List AV} {us : List Value}, VL E al us → ∀ {cs : List AV} {ws : List Value}, VL E cs ws → ∀ (off : Nat), VL E (spliceO cs off al) (splice ws off us)
  | [], us, h, cs, ws, hc, off => by simp only [VL] at h; subst h; exact hc
  | a :: al, us, h, cs, ws, hc, off => by
    simp only [VL] at h
    obtain ⟨u, us', rfl, h1, h2⟩ := h
    rw [spliceO, splice]
    exact splice_VO h2 (VL_set hc h1) (off + 1)
theorem splice_VL {al : List AV} {us : List Value} (h : VL E al us) {cs : List AV} {ws : List Value} (hc : VL E cs ws) (off : Nat) : VL E (spliceA cs off al) (splice ws off us) := by
  rw [spliceA_eq]
  exact splice_VO h hc off
theorem fillA_spec {pl : List (Nat × Nat)} : ∀ {ps : List (Nat × Operand)} {cs us : List AV} {ws : List Value}, (∀ x, V E (evA s x) (Go.Proofs.YtlghgdgpbnlpmaaGreat.ev F x)) → VL E cs ws → fillA pl cs (partsA s ps) = some us →
    ∃ vs, fillS pl ws (ps.map fun p => (p.1, Go.Proofs.YtlghgdgpbnlpmaaGreat.ev F p.2)) = some vs ∧ VL E us vs
  | [], cs, us, ws, hx, hc, h => by cases h; exact ⟨ws, rfl, hc⟩
  | (i, x) :: ps, cs, us, ws, hx, hc, h => by
    rw [partsA, fillA] at h
    cases hp : pl[i]? with
    | none => rw [hp] at h; cases h
    | some q =>
      obtain ⟨off, size⟩ := q
      rw [hp] at h
      simp only at h
      cases hb : (solid (evA s x) && (Nat.beq (cellsA (evA s x)).length size && Nat.ble (off + size) cs.length)) with
      | false => rw [hb] at h; cases h
      | true =>
        rw [hb, cond_true] at h
        simp only [Bool.and_eq_true] at hb
        obtain ⟨us', h1, h2⟩ := solid_cells (hx x) hb.1
        have hlen := VL_len h2
        have hl2 := VL_len hc
        obtain ⟨vs, h3, h4⟩ := fillA_spec (ps := ps) hx (splice_VL h2 hc off) h
        refine ⟨vs, ?_, h4⟩
        simp only [List.map_cons]
        rw [fillS, hp]
        simp only [h1, List.size_toArray]
        rw [hlen, hl2, hb.2.1, hb.2.2]
        exact h3
theorem isPtr_spec {a : AV} (h : isPtr a = true) {v : Value} (hv : V E a v) : ∃ A : Addr, v = .pointer (some A) := by
  cases a <;> simp only [isPtr, Bool.false_eq_true] at h
  · simp only [V] at hv; obtain ⟨A, us, rfl, _⟩ := hv; exact ⟨_, rfl⟩
  · simp only [V] at hv; obtain ⟨_, rfl⟩ := hv; exact ⟨_, rfl⟩
  · simp only [V] at hv; obtain ⟨_, b, n, c, _, rfl⟩ := hv; exact ⟨_, rfl⟩
theorem eqB_spec {op : BinOp} {b r : Bool} (h : eqB op b = some r) {T T' : TypeId} {x y : Operand} {u v : Value} {H1 : Hp} {L1 : List Piece} (hx : Go.Proofs.YtlghgdgpbnlpmaaGreat.ev F x = u) (hy : Go.Proofs.YtlghgdgpbnlpmaaGreat.ev F y = v) (hg : ∀ w, (eqGuard op T x y u v).run P w = .ok () w)
    (h1 : binOp .eql T u v = (do pure (.bool (← Op.equal T u v)))) (h2 : binOp .neq T u v = (do pure (.bool (!(← Op.equal T u v))))) (he : ∀ w, (Op.equal T u v).run P w = .ok b w) : Rv P e (.binOp op T x y T') F H1 L1 (.bool r) := by
  cases op <;> simp only [eqB] at h <;> cases h
  · exact bin_run hx hy hg (fun w => by rw [h1, Sem.run_bind, he]; rfl)
  · exact bin_run hx hy hg (fun w => by rw [h2, Sem.run_bind, he]; rfl)
theorem run_equal_ptr {el : TypeId} {T : TypeId} (hu : P.underlying T = some (.pointer el)) (a b : Option Addr) (h : a = none ∨ b = none) (w : World) : (Op.equal T (.pointer a) (.pointer b)).run P w = .ok (a.isNone && b.isNone) w := by
  unfold Op.equal
  show Sem.run P (Op.equalIn (9999 + 1) T (.pointer a) (.pointer b)) w = _
  rw [Op.equalIn, Sem.run_bind, run_underlying hu]
  rcases h with rfl | rfl
  · simp
  · cases a <;> simp
theorem isNilp_spec {a : AV} (h : isNilp a = true) {v : Value} (hv : V E a v) : v = .pointer none := by
  cases a <;> simp only [isNilp, Bool.false_eq_true] at h
  simpa only [V] using hv
theorem isNf_spec {a : AV} (h : isNf a = true) {v : Value} (hv : V E a v) : v = .nilFunc := by
  cases a <;> simp only [isNf, Bool.false_eq_true] at h
  simpa only [V] using hv
theorem isFn_spec {a : AV} (h : isFn a = true) {v : Value} (hv : V E a v) : ∃ f x y, v = .func f x y := by
  cases a <;> simp only [isFn, Bool.false_eq_true] at h
  simp only [V] at hv
  obtain ⟨us, hv, _⟩ := hv
  exact ⟨_, _, _, hv⟩
theorem run_equal_fn {x y z : _} {T : TypeId} (hu : P.underlying T = some (.func x y z)) (a b : Value) (r : Bool) (h : (a = .nilFunc ∧ b = .nilFunc ∧ r = true) ∨ (a = .nilFunc ∧ (∃ f x y, b = .func f x y) ∧ r = false) ∨ ((∃ f x y, a = .func f x y) ∧ b = .nilFunc ∧ r = false)) (w : World) :
    (Op.equal T a b).run P w = .ok r w := by
  unfold Op.equal
  show Sem.run P (Op.equalIn (9999 + 1) T a b) w = _
  rw [Op.equalIn, Sem.run_bind, run_underlying hu]
  rcases h with ⟨rfl, rfl, rfl⟩ | ⟨rfl, ⟨f, x, y, rfl⟩, rfl⟩ | ⟨⟨f, x, y, rfl⟩, rfl, rfl⟩ <;> rfl
theorem nilA_spec {ti : TyI} {T : TypeId} (ht : TyOk P T ti) {a b : AV} {r q : Bool} {op : BinOp} (h : nilA ti.nl a b = some r) (ho : eqB op r = some q) {T' : TypeId} {x y : Operand} {H1 : Hp} {L1 : List Piece}
    (ha : V E a (Go.Proofs.YtlghgdgpbnlpmaaGreat.ev F x)) (hb : V E b (Go.Proofs.YtlghgdgpbnlpmaaGreat.ev F y)) : Rv P e (.binOp op T x y T') F H1 L1 (.bool q) := by
  have ptr : ∀ (p q' : Option Addr), ti.nl = 1 → (p = none ∨ q' = none) → Go.Proofs.YtlghgdgpbnlpmaaGreat.ev F x = .pointer p → Go.Proofs.YtlghgdgpbnlpmaaGreat.ev F y = .pointer q' → (p.isNone && q'.isNone) = r → Rv P e (.binOp op T x y T') F H1 L1 (.bool q) := by
    intro p q' hn hpq hx hy hr
    obtain ⟨el, hu⟩ := ht.np hn
    subst hr
    exact eqB_spec ho hx hy (fun w => by cases op <;> simp [eqGuard]) rfl rfl (fun w => run_equal_ptr hu p q' hpq w)
  have fnc : ∀ (u v : Value), ti.nl = 2 → ((u = .nilFunc ∧ v = .nilFunc ∧ r = true) ∨ (u = .nilFunc ∧ (∃ f x y, v = .func f x y) ∧ r = false) ∨ ((∃ f x y, u = .func f x y) ∧ v = .nilFunc ∧ r = false)) → Go.Proofs.YtlghgdgpbnlpmaaGreat.ev F x = u → Go.Proofs.YtlghgdgpbnlpmaaGreat.ev F y = v → Rv P e (.binOp op T x y T') F H1 L1 (.bool q) := by
    intro u v hn huv hx hy
    obtain ⟨a1, a2, a3, hu⟩ := ht.nf hn
    have hg : ∀ w, (eqGuard op T x y u v).run P w = .ok () w := by
      intro w
      rcases huv with ⟨rfl, rfl, rfl⟩ | ⟨rfl, ⟨f, x, y, rfl⟩, rfl⟩ | ⟨⟨f, x, y, rfl⟩, rfl, rfl⟩ <;> cases op <;> simp [eqGuard]
    exact eqB_spec ho hx hy hg (by rcases huv with ⟨rfl, rfl, rfl⟩ | ⟨rfl, ⟨f, x, y, rfl⟩, rfl⟩ | ⟨⟨f, x, y, rfl⟩, rfl, rfl⟩ <;> rfl) (by rcases huv with ⟨rfl, rfl, rfl⟩ | ⟨rfl, ⟨f, x, y, rfl⟩, rfl⟩ | ⟨⟨f, x, y, rfl⟩, rfl, rfl⟩ <;> rfl)
      (fun w => run_equal_fn hu u v r huv w)
  unfold nilA at h
  cases h1 : Nat.beq ti.nl 1 with
  | true =>
    have hn := Nat.eq_of_beq_eq_true h1
    rw [h1, cond_true] at h
    cases h2 : isNilp b with
    | true =>
      rw [h2, cond_true] at h
      cases h3 : isNilp a with
      | true => rw [h3, cond_true] at h; cases h; exact ptr none none hn (.inl rfl) (isNilp_spec h3 ha) (isNilp_spec h2 hb) rfl
      | false =>
        rw [h3, cond_false] at h
        cases h4 : isPtr a with
        | true => rw [h4, cond_true] at h; cases h; obtain ⟨A, hA⟩ := isPtr_spec h4 ha; exact ptr (some A) none hn (.inr rfl) hA (isNilp_spec h2 hb) rfl
        | false => rw [h4] at h; cases h
    | false =>
      rw [h2, cond_false] at h
      cases h3 : (isNilp a && isPtr b) with
      | true =>
        rw [h3, cond_true] at h; cases h
        simp only [Bool.and_eq_true] at h3
        obtain ⟨A, hA⟩ := isPtr_spec h3.2 hb
        exact ptr none (some A) hn (.inl rfl) (isNilp_spec h3.1 ha) hA rfl
      | false => rw [h3] at h; cases h
  | false =>
    rw [h1, cond_false] at h
    cases h1' : Nat.beq ti.nl 2 with
    | false => rw [h1'] at h; cases h
    | true =>
      have hn := Nat.eq_of_beq_eq_true h1'
      rw [h1', cond_true] at h
      cases h2 : isNf b with
      | true =>
        rw [h2, cond_true] at h
        cases h3 : isNf a with
        | true => rw [h3, cond_true] at h; cases h; exact fnc _ _ hn (.inl ⟨rfl, rfl, rfl⟩) (isNf_spec h3 ha) (isNf_spec h2 hb)
        | false =>
          rw [h3, cond_false] at h
          cases h4 : isFn a with
          | true => rw [h4, cond_true] at h; cases h; obtain ⟨f, x1, y1, hA⟩ := isFn_spec h4 ha; exact fnc _ _ hn (.inr (.inr ⟨⟨f, x1, y1, rfl⟩, rfl, rfl⟩)) hA (isNf_spec h2 hb)
          | false => rw [h4] at h; cases h
      | false =>
        rw [h2, cond_false] at h
        cases h3 : (isNf a && isFn b) with
        | true =>
          rw [h3, cond_true] at h; cases h
          simp only [Bool.and_eq_true] at h3
          obtain ⟨f, x1, y1, hA⟩ := isFn_spec h3.2 hb
          exact fnc _ _ hn (.inr (.inl ⟨rfl, ⟨f, x1, y1, rfl⟩, rfl⟩)) (isNf_spec h3.1 ha) hA
        | false => rw [h3] at h; cases h
theorem binA_spec {ti : TyI} {T : TypeId} (ht : TyOk P T ti) {op : BinOp} {a b : AV} {q : Bool} (h : binA ti op a b = some q) {T' : TypeId} {x y : Operand} {H1 : Hp} {L1 : List Piece}
    (ha : V E a (Go.Proofs.YtlghgdgpbnlpmaaGreat.ev F x)) (hb : V E b (Go.Proofs.YtlghgdgpbnlpmaaGreat.ev F y)) : Rv P e (.binOp op T x y T') F H1 L1 (.bool q) := by
  unfold binA at h
  split at h
  · rename_i k m k' n
    cases hk : kEq k k' with
    | false => rw [hk] at h; cases h
    | true =>
      rw [hk, cond_true] at h
      have := kEq_eq hk
      subst this
      have hx := V_int ha
      have hy := V_int hb
      cases op <;> simp only [cmpI] at h <;> cases h
      · exact v_eql hx hy
      · exact v_neq hx hy
      · exact v_lss hx hy
      · exact v_leq hx hy
      · exact v_gtr hx hy
      · exact v_geq hx hy
  · cases hk : ti.bo with
    | false => rw [hk] at h; cases h
    | true =>
      rw [hk, cond_true] at h
      have := ht.bo hk
      have hx := V_bool ha
      have hy := V_bool hb
      cases op <;> simp only [eqB] at h <;> cases h
      · exact v_beql hx hy
      · exact v_bneq hx hy
  · have hx := V_str ha
    have hy := V_str hb
    cases op <;> simp only [cmpS] at h <;> cases h
    · exact v_seql hx hy
    · exact v_sneq hx hy
    · exact v_slss hx hy
    · exact v_sleq hx hy
    · exact v_sgtr hx hy
    · exact v_sgeq hx hy
  · split at h
    · rename_i sh hsh
      split at h
      · rename_i r hr
        have := ht.eq sh hsh
        simp only [V] at ha hb
        obtain ⟨us, ha, h1⟩ := ha
        obtain ⟨vs, hb, h2⟩ := hb
        have hq := eqAL_spec hr h1 h2
        cases op <;> simp only [eqB] at h <;> cases h
        · exact v_eqA ha hb hq
        · exact v_neA ha hb hq
      · cases h
    · cases h
  · split at h
    · rename_i r hr
      exact nilA_spec ht hr h ha hb
    · cases h
theorem v_cap {H : Hp} {L : List Piece} {T E : TypeId} {sk bt : Nat} [h : SlT P T E sk bt] {x : Operand} {a : Option Addr} {m c : Nat} (hx : Go.Proofs.YtlghgdgpbnlpmaaGreat.ev F x = .slice a m c) : Rv P e (.call { callee := .builtin .cap, args := #[x], argTypes := #[T] }) F H L (.int .i64 (c : Int)) :=
  ⟨fun ρ o w ho hop _ => by
    unfold execOp; rw [ho]; simp only [resolve, invoke, builtin, List.map_toArray, List.map_cons, List.map_nil]; rw [hop x (by simp [Op.operands, Call.operands]), hx]
    simp [Builtin.cap_, run_underlying h.hu, goInt]⟩
theorem run_sliceBound {ik : IntKind} {i : Int} {l y : Nat} {code : BoundsCode} (hi : i = (l : Int)) (hl : l ≤ y) (w : World) : (Instr.sliceBound (.int ik i) y code).run P w = .ok l w := by
  subst hi
  have h1 : ((0 : Int) ≤ (l : Int) ∧ (l : Int) ≤ (y : Int)) := ⟨by omega, by omega⟩
  simp [Instr.sliceBound, asIntOf, h1]
theorem v_slice {H : Hp} {L : List Piece} {T E : TypeId} {sk bt : Nat} [hT : SlT P T E sk bt] {x : Operand} {a : Option Addr} {n c l h : Nat} {lo hi : Option Operand} {lo' hi' : Option Int} (hx : Go.Proofs.YtlghgdgpbnlpmaaGreat.ev F x = .slice a n c)
    (hlo : (lo = none ∧ lo' = none) ∨ ∃ y ik i, lo = some y ∧ Go.Proofs.YtlghgdgpbnlpmaaGreat.ev F y = .int ik i ∧ lo' = some i) (hhi : (hi = none ∧ hi' = none) ∨ ∃ y ik i, hi = some y ∧ Go.Proofs.YtlghgdgpbnlpmaaGreat.ev F y = .int ik i ∧ hi' = some i)
    (h1 : lo'.getD 0 = (l : Int)) (h2 : hi'.getD n = (h : Int)) (hlh : l ≤ h) (hhc : h ≤ c) : Rv P e (.slice T x lo hi none) F H L (.slice (if c = l then a else a.map (·.add (l * sk))) (h - l) (c - l)) :=
  ⟨fun ρ o w ho hop _ => by
    obtain ⟨i0, z0, hi0, hz0, hk0, hb0, hzs0⟩ := hT.ex
    have hsz : (sizeOf E).run P w = .ok sk w := by simp [sizeOf, typeInfo, hi0, hk0]
    unfold execOp; rw [ho]; simp only
    rw [hop x (by simp [Op.operands]), hx]
    have key : ∀ (lv hv : Option Value), (lv = none ∧ l = 0 ∨ ∃ ik, lv = some (.int ik (l : Int))) → (hv = none ∧ h = n ∨ ∃ ik, hv = some (.int ik (h : Int))) → (Instr.slice T (.slice a n c) lv hv none).run P w = .ok (.slice (if c = l then a else a.map (·.add (l * sk))) (h - l) (c - l)) w := by
      intro lv hv g1 g2
      unfold Instr.slice Instr.sliceBounds
      simp only [Sem.run_bind, run_underlying hT.hu, Result.andThen_ok, Sem.run_pure]
      rcases g2 with ⟨rfl, rfl⟩ | ⟨ik2, rfl⟩
      · rcases g1 with ⟨rfl, rfl⟩ | ⟨ik1, rfl⟩
        · simp [hsz]
        · simp [run_sliceBound (P := P) rfl hlh, hsz]
      · rcases g1 with ⟨rfl, rfl⟩ | ⟨ik1, rfl⟩
        · simp [run_sliceBound (P := P) rfl hhc, hsz]
        · simp [run_sliceBound (P := P) rfl hhc, run_sliceBound (P := P) rfl hlh, hsz]
    have hl2 : lo.map ρ = none ∧ l = 0 ∨ ∃ ik, lo.map ρ = some (.int ik (l : Int)) := by
      rcases hlo with ⟨rfl, rfl⟩ | ⟨y, ik, i, rfl, hy, rfl⟩
      · exact .inl ⟨rfl, by simpa using h1.symm⟩
      · right; refine ⟨ik, ?_⟩
        simp only [Option.getD_some] at h1
        simp only [Option.map_some]; rw [hop y (by simp [Op.operands]), hy, h1]
    have hh2 : hi.map ρ = none ∧ h = n ∨ ∃ ik, hi.map ρ = some (.int ik (h : Int)) := by
      rcases hhi with ⟨rfl, rfl⟩ | ⟨y, ik, i, rfl, hy, rfl⟩
      · exact .inl ⟨rfl, by simp only [Option.getD_none] at h2; omega⟩
      · right; refine ⟨ik, ?_⟩
        simp only [Option.getD_some] at h2
        simp only [Option.map_some]; rw [hop y (by simp [Op.operands]), hy, h2]
    have := key _ _ hl2 hh2
    simp only [Option.map_none]
    unfold Instr.sliceAt
    simp [Sem.run_bind, run_underlying hT.hu, this]⟩
theorem v_slice3 {H : Hp} {L : List Piece} {T E : TypeId} {sk bt : Nat} [hT : SlT P T E sk bt] {x mx : Operand} {a : Option Addr} {n c l h j : Nat} {lo hi : Option Operand} {lo' hi' : Option Int} {mk : IntKind} (hx : Go.Proofs.YtlghgdgpbnlpmaaGreat.ev F x = .slice a n c)
    (hlo : (lo = none ∧ lo' = none) ∨ ∃ y ik i, lo = some y ∧ Go.Proofs.YtlghgdgpbnlpmaaGreat.ev F y = .int ik i ∧ lo' = some i) (hhi : (hi = none ∧ hi' = none) ∨ ∃ y ik i, hi = some y ∧ Go.Proofs.YtlghgdgpbnlpmaaGreat.ev F y = .int ik i ∧ hi' = some i) (hm : Go.Proofs.YtlghgdgpbnlpmaaGreat.ev F mx = .int mk (j : Int))
    (h1 : lo'.getD 0 = (l : Int)) (h2 : hi' = some (h : Int)) (hlh : l ≤ h) (hhj : h ≤ j) (hjc : j ≤ c) : Rv P e (.slice T x lo hi (some mx)) F H L (.slice (if j = l then a else a.map (·.add (l * sk))) (h - l) (j - l)) :=
  ⟨fun ρ o w ho hop _ => by
    obtain ⟨i0, z0, hi0, hz0, hk0, hb0, hzs0⟩ := hT.ex
    have hsz : (sizeOf E).run P w = .ok sk w := by simp [sizeOf, typeInfo, hi0, hk0]
    unfold execOp; rw [ho]; simp only
    rw [hop x (by simp [Op.operands]), hx]
    have key : ∀ (lv hv : Option Value), (lv = none ∧ l = 0 ∨ ∃ ik, lv = some (.int ik (l : Int))) → (∃ ik, hv = some (.int ik (h : Int))) → (Instr.slice T (.slice a n c) lv hv (some (.int mk (j : Int)))).run P w = .ok (.slice (if j = l then a else a.map (·.add (l * sk))) (h - l) (j - l)) w := by
      intro lv hv g1 g2
      unfold Instr.slice Instr.sliceBounds
      simp only [Sem.run_bind, run_underlying hT.hu, Result.andThen_ok, Sem.run_pure]
      obtain ⟨ik2, rfl⟩ := g2
      rcases g1 with ⟨rfl, rfl⟩ | ⟨ik1, rfl⟩
      · simp [run_sliceBound (P := P) rfl hjc, run_sliceBound (P := P) rfl hhj, hsz]
      · simp [run_sliceBound (P := P) rfl hjc, run_sliceBound (P := P) rfl hhj, run_sliceBound (P := P) rfl hlh, hsz]
    have hl2 : lo.map ρ = none ∧ l = 0 ∨ ∃ ik, lo.map ρ = some (.int ik (l : Int)) := by
      rcases hlo with ⟨rfl, rfl⟩ | ⟨y, ik, i, rfl, hy, rfl⟩
      · exact .inl ⟨rfl, by simpa using h1.symm⟩
      · right; refine ⟨ik, ?_⟩
        simp only [Option.getD_some] at h1
        simp only [Option.map_some]; rw [hop y (by simp [Op.operands]), hy, h1]
    have hh2 : ∃ ik, hi.map ρ = some (.int ik (h : Int)) := by
      rcases hhi with ⟨rfl, rfl⟩ | ⟨y, ik, i, rfl, hy, rfl⟩
      · cases h2
      · cases h2
        refine ⟨ik, ?_⟩
        simp only [Option.map_some]; rw [hop y (by simp [Op.operands]), hy]
    have := key _ _ hl2 hh2
    simp only [Option.map_some]
    rw [hop mx (by simp [Op.operands]), hm]
    unfold Instr.sliceAt
    simp [Sem.run_bind, run_underlying hT.hu, this]⟩
theorem getN_take {us : List Value} {k off : Nat} {vs : List Value} (h : getN us off k = some vs) : (us.drop off).take k = vs := by
  obtain ⟨h1, h2⟩ := getN_spec h
  apply List.ext_getElem?
  intro j
  rw [List.getElem?_take, List.getElem?_drop]
  by_cases hj : j < k
  · rw [if_pos (by omega)]
    rw [List.getElem?_eq_getElem (show j < vs.length by omega)]
    exact h2 j _ (List.getElem?_eq_getElem (by omega))
  · rw [if_neg (by omega), List.getElem?_eq_none (by omega)]
theorem v_aix {H : Hp} {L : List Piece} {T E : TypeId} {N k : Nat} {g : Bool} (hu : P.underlying T = some (.array N E)) (hk : ∀ w, (sizeOf E).run P w = .ok k w) (hg : ∀ w, (Go.isAgg E).run P w = .ok g w) {x y : Operand} {us : List Value} {ik : IntKind} {i : Int} {j : Nat}
    (hx : Go.Proofs.YtlghgdgpbnlpmaaGreat.ev F x = .agg us.toArray) (hy : Go.Proofs.YtlghgdgpbnlpmaaGreat.ev F y = .int ik i) (hi : i = (j : Int)) (hj : j < N) {u : Value} (hu2 : (g = true ∧ ∃ vs, getN us (j * k) k = some vs ∧ u = .agg vs.toArray) ∨ (g = false ∧ us[j * k]? = some u)) : Rv P e (.index T x y) F H L u :=
  ⟨fun ρ o w ho hop _ => by
    unfold execOp; rw [ho]; simp only
    rw [hop x (by simp [Op.operands]), hop y (by simp [Op.operands]), hx, hy]
    subst hi
    rcases hu2 with ⟨rfl, vs, h1, rfl⟩ | ⟨rfl, h1⟩
    · simp [Instr.index, asIntOf, run_underlying hu, hj, hk, part, hg, getN_take h1]
    · simp [Instr.index, asIntOf, run_underlying hu, hj, hk, part, hg, h1]⟩
theorem toL {α : Type} {xs : Array α} {l : List α} (h : xs.toList = l) : xs = l.toArray := by rw [← h]
/-- what only answers: the abstract answer stands to the one answer that comes, whenever it comes -/
theorem v_bits {H : Hp} {L : List Piece} {op : BinOp} {T T' : TypeId} {x y : Operand} {k : IntKind} {m n : Int} (hop : op = .xor ∨ op = .and ∨ op = .or) (hx : Go.Proofs.YtlghgdgpbnlpmaaGreat.ev F x = .int k m) (hy : Go.Proofs.YtlghgdgpbnlpmaaGreat.ev F y = .int k n) : Rv P e (.binOp op T x y T') F H L (.int k (k.wrap (bitsI op k m n))) := by
  rcases hop with rfl | rfl | rfl
  all_goals exact bin_run hx hy (fun w => by simp [eqGuard]) (fun w => by simp [binOp, Op.intBits, bitsI])
theorem v_shr {H : Hp} {L : List Piece} {T T' : TypeId} {x y : Operand} {k k' : IntKind} {m : Int} {s : Nat} (hx : Go.Proofs.YtlghgdgpbnlpmaaGreat.ev F x = .int k m) (hy : Go.Proofs.YtlghgdgpbnlpmaaGreat.ev F y = .int k' (.ofNat s)) (hs : s ≤ k.bits) : Rv P e (.binOp .shr T x y T') F H L (.int k (m / ((2 ^ s : Nat) : Int))) := by
  refine bin_run hx hy (fun w => by simp [eqGuard]) (fun w => ?_)
  have h := Go.shift_shr k k' m (.ofNat s) (Int.natCast_nonneg s) (by simpa using hs)
  have e : binOp .shr T (.int k m) (.int k' (.ofNat s)) = Op.shift .shr k m k' (.ofNat s) := rfl
  rw [e, h]
  simp
theorem v_rem {H : Hp} {L : List Piece} {T T' : TypeId} {x y : Operand} {k : IntKind} {m n : Int} (hx : Go.Proofs.YtlghgdgpbnlpmaaGreat.ev F x = .int k m) (hy : Go.Proofs.YtlghgdgpbnlpmaaGreat.ev F y = .int k n) (hn : n ≠ 0) : Rv P e (.binOp .rem T x y T') F H L (.int k (m.tmod n)) :=
  bin_run hx hy (fun w => by simp [eqGuard]) (fun w => by simp [binOp, Op.intDiv, hn])
theorem hq_sound {ty : Nat → TyI} (ht : ∀ T, TyOk P T (ty T)) {k : AV → Prop} {op : Op} (h : hq P ty s k op) (hr : RS E s F L) : ∃ v u, k v ∧ V E v u ∧ StDet P e E.H L false op F u := by
  unfold hq at h
  split at h
  · exact ⟨_, _, h, hr.ev _, st_rv fun _ _ => v_move rfl⟩
  · exact ⟨_, _, h, hr.ev _, st_rv fun _ _ => v_assign rfl⟩
  · rename_i c a b
    have hc := hr.ev c
    split at h
    · rename_i t hct
      rw [hct] at hc
      cases t with
      | true => exact ⟨_, _, h, hr.ev a, st_rv fun _ _ => v_pick_t (V_bool hc) rfl rfl⟩
      | false => exact ⟨_, _, h, hr.ev b, st_rv fun _ _ => v_pick_f (V_bool hc) rfl rfl⟩
    · cases h
  · rename_i op T x y T'
    have hx := hr.ev x
    have hy := hr.ev y
    split at h
    · rename_i kk z har
      obtain ⟨r, rfl, hk⟩ := h.ex
      unfold arA at har
      split at har
      all_goals first
        | (cases har; done)
        | (rename_i k1 m k2 n e1 e2
           rw [e1] at hx; rw [e2] at hy
           cases hk2 : kEq k1 k2 with
           | false => rw [hk2] at har; cases har
           | true =>
             rw [hk2, cond_true] at har
             have := kEq_eq hk2
             subst this
             cases har
             first
               | exact ⟨_, _, hk, by simp only [V], st_rv fun _ _ => v_add (V_int hx) (V_int hy)⟩
               | exact ⟨_, _, hk, by simp only [V], st_rv fun _ _ => v_sub (V_int hx) (V_int hy)⟩
               | exact ⟨_, _, hk, by simp only [V], st_rv fun _ _ => v_mul (V_int hx) (V_int hy)⟩
               | exact ⟨_, _, hk, by simp only [V], st_rv fun _ _ => v_bits (op := .xor) (.inl rfl) (V_int hx) (V_int hy)⟩
               | exact ⟨_, _, hk, by simp only [V], st_rv fun _ _ => v_bits (op := .and) (.inr (.inl rfl)) (V_int hx) (V_int hy)⟩
               | exact ⟨_, _, hk, by simp only [V], st_rv fun _ _ => v_bits (op := .or) (.inr (.inr rfl)) (V_int hx) (V_int hy)⟩)
    · split at h
      · rename_i b hb
        exact ⟨_, _, h.run b rfl, by simp only [V], st_rv fun _ _ => binA_spec (ht T) hb hx hy⟩
      · unfold shA at h
        split at h
        · rename_i k1 m k2 sh e1 e2 _ _
          rw [e1] at hx; rw [e2] at hy
          split at h
          · rename_i hle
            exact ⟨_, _, h, by simp only [V], st_rv fun _ _ => v_shr (V_int hx) (V_int hy) (Nat.le_of_ble_eq_true hle)⟩
          · cases h
        · rename_i k1 m k2 n e1 e2 _ _
          rw [e1] at hx; rw [e2] at hy
          split at h
          · rename_i hkk
            have := kEq_eq hkk
            subst this
            exact ⟨_, _, h.k, by simp only [V], st_rv fun _ _ => v_rem (V_int hx) (V_int hy) h.ne⟩
          · cases h
        · cases h
  · rename_i x
    have hx := hr.ev x
    split at h
    · rename_i b hb
      rw [hb] at hx
      exact ⟨_, _, h, by simp only [V], st_rv fun _ _ => v_not (V_bool hx)⟩
    · cases h
  · rename_i x
    have hx := hr.ev x
    split at h
    · rename_i kk m hb
      rw [hb] at hx
      obtain ⟨r, rfl, hk⟩ := h.ex
      exact ⟨_, _, hk, by simp only [V], st_rv fun _ _ => v_neg (V_int hx)⟩
    · cases h
  · rename_i T x f
    have hx := hr.ev x
    split at h
    · rename_i o ho
      have := (ht T).fo f o ho
      split at h
      · rename_i cs off hb
        rw [hb] at hx
        simp only [V] at hx
        obtain ⟨A, us, hx, h1, h2⟩ := hx
        exact ⟨_, _, h, by simp only [V]; exact ⟨A, us, rfl, h1, h2⟩, st_rv fun _ _ => v_field hx⟩
      · rename_i id off hb
        rw [hb] at hx
        simp only [V] at hx
        exact ⟨_, .pointer (some ((⟨E.m id, 0, none⟩ : Addr).add (off + o))), h, by simp only [V]; exact ⟨hx.1, trivial⟩, st_rv fun _ _ => v_field hx.2⟩
      · rename_i id kk j off hb
        rw [hb] at hx
        simp only [V] at hx
        obtain ⟨h1, b, n, c, h2, hx⟩ := hx
        exact ⟨_, _, h, by simp only [V]; exact ⟨h1, b, n, c, h2, rfl⟩, st_rv fun _ _ => v_field hx⟩
      · cases h
    · cases h
  · rename_i T x
    have hx := hr.ev x
    split at h
    · rename_i cs off hb
      rw [hb] at hx
      split at h
      · rename_i v hv
        simp only [V] at hx
        obtain ⟨A, us, hx, h1, h2⟩ := hx
        obtain ⟨u, h3, h4⟩ := ldA_spec (ht T) h2 hv
        refine ⟨_, u, kx_self h, h3.mono (Env.le.of (Hp.le.refl _)), fun H1 L1 hH => opt_rv (v_load hx (h4 (Src.frz ?_)))⟩
        rcases hH with hH | ⟨hH, _⟩
        · cases hH
        · exact h1.mono hH
      · cases h
    · rename_i id off hb
      rw [hb] at hx
      split at h
      · rename_i i id' cs T' hp
        split at h
        · rename_i v hv
          simp only [V] at hx
          obtain ⟨hid, hi, q, hq, hvp⟩ := pos_spec hr.h hp
          simp only [AP.id] at hid
          subst hid
          simp only [VP] at hvp
          obtain ⟨_, us, rfl, hus⟩ := hvp
          obtain ⟨u, h3, h4⟩ := ldA_spec (ht T) hus hv
          refine ⟨_, u, kx_self h, h3, fun H1 L1 hH => ?_⟩
          rcases hH with hH | ⟨hH, hz | ⟨O, rfl⟩⟩
          · cases hH
          · cases hz
          · exact opt_rv (v_load hx.2 (h4 (Src.blk (O.length + i) _ _ (by rw [List.getElem?_append_right (by omega)]; simpa using hq) rfl)))
        · cases h
      · cases h
    · rename_i id kk j off hb
      rw [hb] at hx
      split at h
      · rename_i i id' El k' rows hp
        split at h
        · rename_i hkk
          have := Nat.eq_of_beq_eq_true hkk
          subst this
          obtain ⟨cs, hcs, h⟩ := h.ex
          split at h
          · rename_i v hv
            simp only [V] at hx
            obtain ⟨hlt, b, n, c, hg, hx⟩ := hx
            obtain ⟨hid, hi, q, hq, hvp⟩ := pos_spec hr.h hp
            simp only [AP.id] at hid
            subst hid
            simp only [VP] at hvp
            obtain ⟨_, _, rs, rfl, hrs⟩ := hvp
            obtain ⟨us, hus, hvl⟩ := VLL_get hrs hcs
            obtain ⟨u, h3, h4⟩ := ldA_spec (ht T) hvl hv
            refine ⟨_, u, kx_self h, h3.mono (Env.le.of (Hp.le.refl _)), fun H1 L1 hH => ?_⟩
            rcases hH with hH | ⟨hH, hz | ⟨O, rfl⟩⟩
            · cases hH
            · cases hz
            · exact opt_rv (v_load hx (h4 (Src.row (O.length + i) b n c El kk rs j (by rw [List.getElem?_append_right (by omega), ← hg]; simpa using hq) hus rfl)))
          · cases h
        · cases h
      · cases h
    · cases h
  · rename_i x
    have hx := hr.ev x
    split at h
    · rename_i hp
      obtain ⟨A, hA⟩ := isPtr_spec hp hx
      exact ⟨_, _, h, by rw [← hA]; exact hx, st_rv fun _ _ => v_nilCheck hA⟩
    · cases h
  · rename_i x i
    have hx := hr.ev x
    split at h
    · rename_i vs hb
      rw [hb] at hx
      split at h
      · rename_i v hv
        simp only [V] at hx
        obtain ⟨us, hx, hus⟩ := hx
        obtain ⟨u, hu, hvu⟩ := VL_get hus hv
        exact ⟨_, u, kx_self h, hvu, st_rv fun _ _ => v_extract hx (by simpa using hu)⟩
      · cases h
    · cases h
  · rename_i T parts
    split at h
    · rename_i zs pl hz
      split at h
      · rename_i us hus
        have := (ht T).bz zs pl hz
        obtain ⟨vs, h1, h2⟩ := fillA_spec (F := F) (fun x => hr.ev x) (VL_cv1 E zs) hus
        refine ⟨_, .agg vs.toArray, fcL_self (k := fun us => k (.agg us)) h, by simp only [V]; exact ⟨vs, rfl, h2⟩, st_rv fun _ _ => ?_⟩
        have := v_build (e := e) (T := T) (P := P) (F := F) (H := ‹Hp›) (L := ‹List Piece›) (parts := parts.toList) rfl h1
        simpa using this
      · cases h
    · cases h
  · rename_i f first xs
    split at h
    · rename_i hf
      have h0 : first = #[] := by simpa using toL hf
      subst h0
      rw [evLA_eq] at h
      refine ⟨_, _, h, by simp only [V]; exact ⟨_, rfl, hr.evs xs.toList⟩, st_rv fun _ _ => ?_⟩
      have := v_makeFunc (e := e) (P := P) (F := F) (H := ‹Hp›) (L := ‹List Piece›) (f := f) (xs := xs) rfl
      rw [show (List.map (Go.Proofs.YtlghgdgpbnlpmaaGreat.ev F) xs.toList).toArray = xs.map (Go.Proofs.YtlghgdgpbnlpmaaGreat.ev F) by rw [← Array.toList_map]]
      exact this
    · cases h
  · rename_i T x y
    have hx := hr.ev x
    have hy := hr.ev y
    split at h
    · rename_i n rows kk0 i e1 e2
      rw [e1] at hx; rw [e2] at hy
      split at h
      · rename_i El kk bt hel
        obtain ⟨j, cs, rfl, hcs, hlen, hk⟩ := h.ex
        have := (ht T).el _ _ _ hel
        simp only [V] at hx
        obtain ⟨a, c, k2, hx, hn, _, _, hvr⟩ := hx
        obtain ⟨ad, us, rfl, h1, h2, h3⟩ := VR_at hvr hcs
        have hk2 : k2 = kk := by rw [← h1, hlen]
        subst hk2
        have hj : j < n := by rw [hn]; exact (List.getElem?_eq_some_iff.1 hcs).1
        rw [Nat.zero_add] at h2
        exact ⟨_, _, hk, by simp only [V]; exact ⟨_, us, rfl, h2, h3⟩, st_rv fun _ _ => v_index hx (V_int hy) rfl hj⟩
      · cases h
    · rename_i id n kk0 i e1 e2
      rw [e1] at hx; rw [e2] at hy
      split at h
      · rename_i El kk bt hel
        obtain ⟨j, rfl, hj, hk⟩ := h.ex
        have := (ht T).el _ _ _ hel
        simp only [V] at hx
        obtain ⟨hid, hg, a, c, hv, hb⟩ := hx
        obtain ⟨b, rfl⟩ := hb.1 (by omega)
        exact ⟨_, .pointer (some (((⟨b, 0, none⟩ : Addr).add (j * kk)).add 0)), hk, by simp only [V]; exact ⟨hid, b, n, c, by rw [← hg]; exact hv, rfl⟩, st_rv fun _ _ => v_index hv (V_int hy) rfl hj⟩
      · cases h
    · rename_i cs off kk0 i e1 e2
      rw [e1] at hx; rw [e2] at hy
      split at h
      · rename_i N kk har
        obtain ⟨j, rfl, hj, hk⟩ := h.ex
        obtain ⟨El, _⟩ := (ht T).ar _ _ har
        simp only [V] at hx
        obtain ⟨A, us, hx, h1, h2⟩ := hx
        exact ⟨_, _, hk, by simp only [V]; exact ⟨A, us, rfl, h1, h2⟩, st_rv fun _ _ => v_arix hx (V_int hy) rfl hj⟩
      · cases h
    · rename_i id off kk0 i e1 e2
      rw [e1] at hx; rw [e2] at hy
      split at h
      · rename_i N kk har
        obtain ⟨j, rfl, hj, hk⟩ := h.ex
        obtain ⟨El, _⟩ := (ht T).ar _ _ har
        simp only [V] at hx
        exact ⟨_, .pointer (some ((⟨E.m id, 0, none⟩ : Addr).add (off + j * kk))), hk, by simp only [V]; exact ⟨hx.1, trivial⟩, st_rv fun _ _ => v_arix hx.2 (V_int hy) rfl hj⟩
      · cases h
    · rename_i id k0 j0 off kk0 i e1 e2
      rw [e1] at hx; rw [e2] at hy
      split at h
      · rename_i N kk har
        obtain ⟨j, rfl, hj, hk⟩ := h.ex
        obtain ⟨El, _⟩ := (ht T).ar _ _ har
        simp only [V] at hx
        obtain ⟨h1, b, n, c, h2, hx⟩ := hx
        exact ⟨_, _, hk, by simp only [V]; exact ⟨h1, b, n, c, h2, rfl⟩, st_rv fun _ _ => v_arix hx (V_int hy) rfl hj⟩
      · cases h
    · cases h
  · rename_i xs ts
    split at h
    · rename_i x T e1 e2
      have e1 := toL e1
      have e2 := toL e2
      subst e1; subst e2
      have hx := hr.ev x
      split at h
      · rename_i n rows hb
        rw [hb] at hx
        split at h
        · rename_i q hel
          obtain ⟨El, kk, bt⟩ := q
          have := (ht T).el _ _ _ hel
          simp only [V] at hx
          obtain ⟨a, c, k2, hx, _⟩ := hx
          exact ⟨_, _, h, by simp only [V], st_rv fun _ _ => v_len hx⟩
        · cases h
      · rename_i id n hb
        rw [hb] at hx
        split at h
        · rename_i q hel
          obtain ⟨El, kk, bt⟩ := q
          have := (ht T).el _ _ _ hel
          simp only [V] at hx
          obtain ⟨_, _, a, c, hx, _⟩ := hx
          exact ⟨_, _, h, by simp only [V], st_rv fun _ _ => v_len hx⟩
        · cases h
      · rename_i id k0 lo n C w hb
        rw [hb] at hx
        split at h
        · rename_i q hel
          obtain ⟨El, kk, bt⟩ := q
          have := (ht T).el _ _ _ hel
          simp only [V] at hx
          obtain ⟨_, b, N, a, _, hx, _⟩ := hx
          exact ⟨_, _, h, by simp only [V], st_rv fun _ _ => v_len hx⟩
        · cases h
      · rename_i hb
        rw [hb] at hx
        split at h
        · rename_i q hel
          obtain ⟨El, kk, bt⟩ := q
          have := (ht T).el _ _ _ hel
          simp only [V] at hx
          exact ⟨_, .int .i64 ((0 : Nat) : Int), h, by simp only [V]; rfl, st_rv fun _ _ => v_len hx⟩
        · cases h
      · rename_i t hb
        rw [hb] at hx
        split at h
        · rename_i hst
          have := (ht T).st hst
          exact ⟨_, _, h, by simp only [V], st_rv fun _ _ => v_slen (V_str hx)⟩
        · cases h
      · cases h
    · cases h
  · rename_i T x lo hi
    have hx := hr.ev x
    split at h
    · rename_i lo' hi' e1 e2
      split at h
      · rename_i El kk bt hel
        have := (ht T).el _ _ _ hel
        have hbnd : ∀ {o : Option Operand} {b : Option Int}, optI s o = some b → (o = none ∧ b = none) ∨ ∃ y ik i, o = some y ∧ Go.Proofs.YtlghgdgpbnlpmaaGreat.ev F y = .int ik i ∧ b = some i := by
          intro o b hb
          cases o with
          | none => simp only [optI, Option.some.injEq] at hb; exact .inl ⟨rfl, hb.symm⟩
          | some y =>
            simp only [optI] at hb
            split at hb
            · rename_i ik i hy
              have := hr.ev y
              rw [hy] at this
              cases hb
              exact .inr ⟨y, ik, i, rfl, V_int this, rfl⟩
            · cases hb
        split at h
        · rename_i n rows hb
          rw [hb] at hx
          obtain ⟨l, hh, n', rows', h1, h2, h3, h4, h5, rfl, rfl, hk⟩ := h.ex
          simp only [V] at hx
          obtain ⟨a, c, k2, hx, hn, hnc, hcm, hvr⟩ := hx
          refine ⟨_, .slice (if c = l then a else a.map (·.add (l * kk))) (hh - l) (c - l), hk, ?_, st_rv fun _ _ => v_slice hx (hbnd e1) (hbnd e2) h1 (by rw [h2]) h3 (by omega)⟩
          simp only [V]
          refine ⟨_, _, kk, rfl, by simp; omega, by omega, by omega, VR_mk fun j r hj => ?_⟩
          rw [List.getElem?_drop, List.getElem?_take] at hj
          split at hj
          · obtain ⟨ad, us, rfl, g1, g2, g3⟩ := VR_at hvr hj
            have hrk : r.length = kk := h5 r (List.mem_of_getElem? hj)
            have hk2 : k2 = kk := by rw [← g1, hrk]
            subst hk2
            rw [if_neg (by omega)]
            refine ⟨_, us, rfl, hrk, ?_, g3⟩
            rw [add_add, Nat.zero_add, ← Nat.add_mul]
            rw [Nat.zero_add] at g2
            exact g2
          · cases hj
        · rename_i hb
          rw [hb] at hx
          obtain ⟨h1, h2, hk⟩ := h.ex
          simp only [V] at hx
          exact ⟨_, .slice none 0 0, hk, by simp only [V], by
            have := fun H1 L1 => v_slice (P := P) (e := e) (F := F) (H := H1) (L := L1) (T := T) (x := x) (a := none) (n := 0) (c := 0) (l := 0) (h := 0) hx (hbnd e1) (hbnd e2) (by simpa using h1) (by simpa using h2) (Nat.le_refl _) (Nat.le_refl _)
            exact st_rv this⟩
        · rename_i id k0 lo0 n C w hb
          rw [hb] at hx
          split at h
          · rename_i hkk
            have hkk := Nat.eq_of_beq_eq_true hkk
            subst hkk
            obtain ⟨l, hh, h1, h2, h3, h4, hk⟩ := h.ex
            simp only [V] at hx
            obtain ⟨g1, b, N, a, hg, hx, g4, g5, _⟩ := hx
            refine ⟨_, .slice (if C - lo0 = l then a else a.map (·.add (l * kk))) (hh - l) (C - lo0 - l), hk, ?_, st_rv fun _ _ => v_slice hx (hbnd e1) (hbnd e2) h1 (by rw [h2]) h3 h4⟩
            simp only [V]
            refine ⟨g1, b, N, (if C - lo0 = l then a else a.map (·.add (l * kk))), hg, by rw [Nat.sub_sub], by omega, fun hl => ?_, fun hw => by cases hw⟩
            rw [if_neg (by omega), g5 (by omega), Option.map_some, add_add, ← Nat.add_mul]
          · cases h
        · cases h
      · cases h
    · cases h
  · rename_i xs ts
    split at h
    · rename_i x T e1 e2
      have e1 := toL e1
      have e2 := toL e2
      subst e1; subst e2
      have hx := hr.ev x
      split at h
      · rename_i hb
        rw [hb] at hx
        split at h
        · rename_i q hel
          obtain ⟨El, kk, bt⟩ := q
          have := (ht T).el _ _ _ hel
          simp only [V] at hx
          exact ⟨_, .int .i64 ((0 : Nat) : Int), h, by simp only [V]; rfl, st_rv fun _ _ => v_cap hx⟩
        · cases h
      · rename_i id k0 lo n C w hb
        rw [hb] at hx
        split at h
        · rename_i q hel
          obtain ⟨El, kk, bt⟩ := q
          have := (ht T).el _ _ _ hel
          simp only [V] at hx
          obtain ⟨_, b, N, a, _, hx, _⟩ := hx
          exact ⟨_, _, h, by simp only [V], st_rv fun _ _ => v_cap hx⟩
        · cases h
      · cases h
    · cases h
  · rename_i xs ts
    split at h
    · rename_i x y T T' e1 e2
      have e1 := toL e1
      have e2 := toL e2
      subst e1; subst e2
      have hx := hr.ev x
      have hy := hr.ev y
      split at h
      · rename_i k1 m k2 n e1 e2
        rw [e1] at hx; rw [e2] at hy
        split at h
        · rename_i hk
          have := kEq_eq hk
          subst this
          exact ⟨_, _, h, by simp only [V], st_rv fun _ _ => v_max (V_int hx) (V_int hy)⟩
        · cases h
      · cases h
    · cases h
  · rename_i xs ts
    split at h
    · rename_i x y T T' e1 e2
      have e1 := toL e1
      have e2 := toL e2
      subst e1; subst e2
      have hx := hr.ev x
      have hy := hr.ev y
      split at h
      · rename_i k1 m k2 n e1 e2
        rw [e1] at hx; rw [e2] at hy
        split at h
        · rename_i hk
          have := kEq_eq hk
          subst this
          exact ⟨_, _, h, by simp only [V], st_rv fun _ _ => v_min (V_int hx) (V_int hy)⟩
        · cases h
      · cases h
    · cases h
  · rename_i g xs ts
    have hg := hr.ev g
    split at h
    · rename_i f caps hgf
      rw [hgf] at hg
      simp only [V] at hg
      obtain ⟨cs, hg, hcs⟩ := hg
      obtain ⟨r, u, hf, hfl, hk⟩ := h.ex
      refine ⟨r, u, kx_self hk, (flatV_spec E r u hfl).1, fun H1 L1 hH => ?_⟩
      rcases hH with hH | ⟨hH, hz | ⟨O, rfl⟩⟩
      · cases hH
      · cases hz
      have hvs := hr.evs xs.toList
      rw [← evLA_eq] at hvs
      have hvs := VL_append hvs hcs
      have hB := opt_callB (P := P) (e := e) (F := F) (H := H1) (L := O ++ L) (g := g) (xs := xs) (ts := ts) (f := f) (first := #[]) (cap := cs.toArray) (args := (xs.toList.map (Go.Proofs.YtlghgdgpbnlpmaaGreat.ev F) ++ cs).toArray) (R := fun v _ => v = u) hg
        (by rw [← Array.toList_map]; simp)
        (fun w hs => (hf (hp w) _ (VL_tr (fz1_ok (Frz.lend hr.h hH hs rfl)) _ _ hvs)).mono fun v H' O' _ hv => (flatV_spec _ r u hfl).2 v hv)
      exact ⟨fun a o w K Q ho hop hs hK => hB.run a o w K Q ho hop hs fun v w' H' L' hs' ⟨h1, O', h2, h3⟩ => by
        subst h1; subst h2
        exact hK v w' _ _ (hs'.sub (List.sublist_append_right O' _)) ⟨h3, rfl, rfl⟩⟩
    · cases h
  · rename_i T x y
    have hx := hr.ev x
    have hy := hr.ev y
    split at h
    · rename_i cs ik i e1 e2
      rw [e1] at hx; rw [e2] at hy
      split at h
      · rename_i N kk g hix
        obtain ⟨El, a1, a2, a3⟩ := (ht T).ix N kk g hix
        obtain ⟨j, hi, hj, h⟩ := h.ex
        simp only [V] at hx
        obtain ⟨us, hx, hus⟩ := hx
        split at h
        · split at h
          · rename_i al hal
            obtain ⟨vs, h1, h2⟩ := getNA_spec hus hal
            exact ⟨_, _, h, by simp only [V]; exact ⟨vs, rfl, h2⟩, st_rv fun _ _ => v_aix a1 a2 a3 hx (V_int hy) hi hj (.inl ⟨rfl, vs, h1, rfl⟩)⟩
          · cases h
        · split at h
          · rename_i v hv
            obtain ⟨u, hu, hvu⟩ := VL_get hus hv
            exact ⟨_, u, kx_self h, hvu, st_rv fun _ _ => v_aix a1 a2 a3 hx (V_int hy) hi hj (.inr ⟨rfl, hu⟩)⟩
          · cases h
      · cases h
    · cases h
  · rename_i S D x
    have hx := hr.ev x
    split at h
    · rename_i k0 m k' e1 e2 e3
      rw [e1] at hx
      obtain ⟨r, rfl, hk⟩ := h.ex
      obtain ⟨k2, hS⟩ := (ht S).it e2
      have hD := (ht D).ik _ e3
      exact ⟨_, _, hk, by simp only [V], st_rv fun _ _ => v_convInt (k' := k') (fun w => by simp [convert, run_underlying hS, run_underlying hD, Conv.intToInt]) (V_int hx)⟩
    · cases h
  · rename_i T x lo hi mx
    have hx := hr.ev x
    have hmx := hr.ev mx
    split at h
    · rename_i lo' hi' mk m e1 e2 e3
      rw [e3] at hmx
      split at h
      · rename_i q hel
        obtain ⟨El, kk, bt⟩ := q
        have := (ht T).el _ _ _ hel
        have hbnd : ∀ {o : Option Operand} {b : Option Int}, optI s o = some b → (o = none ∧ b = none) ∨ ∃ y ik i, o = some y ∧ Go.Proofs.YtlghgdgpbnlpmaaGreat.ev F y = .int ik i ∧ b = some i := by
          intro o b hb
          cases o with
          | none => simp only [optI, Option.some.injEq] at hb; exact .inl ⟨rfl, hb.symm⟩
          | some y =>
            simp only [optI] at hb
            split at hb
            · rename_i ik i hy
              have := hr.ev y
              rw [hy] at this
              cases hb
              exact .inr ⟨y, ik, i, rfl, V_int this, rfl⟩
            · cases hb
        split at h
        · rename_i id n hb
          rw [hb] at hx
          obtain ⟨l, hh, j, h1, h2, rfl, h3, h4, h5, hk⟩ := h.ex
          simp only [V] at hx
          obtain ⟨_, _, a, c, hx, _, hnc⟩ := hx
          exact ⟨_, _, hk, by simp only [V], st_rv fun _ _ => v_slice3 hx (hbnd e1) (hbnd e2) (V_int hmx) h1 h2 h3 h4 (Nat.le_trans h5 hnc)⟩
        · rename_i id k0 lo0 n C w hb
          rw [hb] at hx
          obtain ⟨l, hh, j, h1, h2, rfl, h3, h4, h5, hk⟩ := h.ex
          simp only [V] at hx
          obtain ⟨_, b, N, a, _, hx, _⟩ := hx
          exact ⟨_, _, hk, by simp only [V], st_rv fun _ _ => v_slice3 hx (hbnd e1) (hbnd e2) (V_int hmx) h1 h2 h3 h4 h5⟩
        · cases h
      · cases h
    · cases h
  · cases h

/-- a load of what is frozen, whenever it comes -/
def fzq (ty : Nat → TyI) (s : AS) (k : AV → Prop) : Op → Prop
  | .load T x => match evA s x with
    | .fp cs off => (match ldA (ty T) cs off with | some v => kx v k | none => False)
    | _ => False
  | _ => False
theorem fzq_sound {ty : Nat → TyI} (ht : ∀ T, TyOk P T (ty T)) {k : AV → Prop} {op : Op} {z : Bool} (h : fzq ty s k op) (hr : RS E s F L) : ∃ v u, k v ∧ V E v u ∧ StDet P e E.H L z op F u := by
  unfold fzq at h
  split at h
  · rename_i T x
    have hx := hr.ev x
    split at h
    · rename_i cs off hb
      rw [hb] at hx
      split at h
      · rename_i v hv
        simp only [V] at hx
        obtain ⟨A, us, hx, h1, h2⟩ := hx
        obtain ⟨u, h3, h4⟩ := ldA_spec (ht T) h2 hv
        refine ⟨_, u, kx_self h, h3.mono (Env.le.of (Hp.le.refl _)), fun H1 L1 hH => opt_rv (v_load hx (h4 (Src.frz ?_)))⟩
        rcases hH with hH | ⟨hH, _⟩
        · cases hH
        · exact h1.mono hH
      · cases h
    · cases h
  · cases h
end sound
end Go.Proofs.YtlghgdgpbnlpmaaGreat
