/- What is proved: a condition that is computed from a function's code, over abstract values, is enough for what its run does. Conditions: none. -/
import Derived.Test.YtlghgdgpbnlpmaaGreatDrt
import Derived.Test.YtlghgdgpbnlpmaaGreatVx
namespace Go.Proofs.YtlghgdgpbnlpmaaGreat
open Go.RowKit

abbrev APost := Exit → AS → Prop
def big : Op → Bool
  | .alloc _ | .box _ _ | .store _ _ _ | .buildSlice _ _ _ => true
  | .call { callee := .builtin .append, .. } => true
  | .call { callee := .builtin .copy, .. } => true
  | .call { callee := .builtin .clear, .. } => true
  | _ => false
def isCall : Op → Bool
  | .call { callee := .value _, .. } => true
  | .slice _ _ _ _ none => true
  | .binOp .eql _ _ (.const (.slice none 0 0)) _ => true
  | _ => false
/-- worked out, with the cells behind a frozen pointer -/
def fcF (v : AV) (k : AV → Prop) : Prop :=
  match v with
  | .fp cs off => fcL cs fun cs => fcI off fun off => k (.fp cs off)
  | v => fc v k
theorem fcF_self {v : AV} {k : AV → Prop} (h : fcF v k) : k v := by
  cases v
  case fp cs off => exact fcI_self (k := fun off => k (.fp cs off)) (fcL_self (k := fun cs => fcI off fun off => k (.fp cs off)) h)
  all_goals exact fc_self h
/-- the slots in a list are worked out once -/
def pushG (G : Nat → AV) : List Nat → (Nat → AV) → ((Nat → AV) → Prop) → Prop
  | [], F, k => k F
  | t :: r, F, k => fcF (G t) fun v => pushG G r (updA F t v) k
theorem pushG_self {G : Nat → AV} : ∀ {l : List Nat} {F : Nat → AV} {k : (Nat → AV) → Prop}, (∀ t, F t = G t) → pushG G l F k → k G
  | [], F, k, hF, h => by rw [← (funext hF : F = G)]; exact h
  | t :: r, F, k, hF, h => by
    have h := fcF_self (k := fun v => pushG G r (updA F t v) k) h
    refine pushG_self (fun i => ?_) h
    simp only [updA]
    cases hb : Nat.beq i t with
    | true => rw [Nat.eq_of_beq_eq_true hb]; rfl
    | false => exact hF i
def frzC (l : List Nat) (js : List Nat) (s : AS) (k : AS → Prop) : Prop :=
  match js with
  | [] => k s
  | j :: js => fcH (pickA (j :: js) s.h) fun hj => fcH ((pickR (j :: js) s.h).map (pfP hj)) fun h => pushG (fun t => tr (pfz hj) (s.F t)) l (fun t => tr (pfz hj) (s.F t)) fun F => k ⟨F, h, s.nx⟩
theorem frzC_self {l js : List Nat} {s : AS} {k : AS → Prop} (h : frzC l js s k) : k (frzS js s) := by
  cases js with
  | nil => exact h
  | cons j js => exact pushG_self (k := fun F => k ⟨F, _, s.nx⟩) (fun _ => rfl) (fcH_self (k := fun h => pushG (fun t => tr (pfz (pickA (j :: js) s.h)) (s.F t)) l (fun t => tr (pfz (pickA (j :: js) s.h)) (s.F t)) fun F => k ⟨F, h, s.nx⟩) (fcH_self (k := fun hj => fcH ((pickR (j :: js) s.h).map (pfP hj)) fun h => pushG (fun t => tr (pfz hj) (s.F t)) l (fun t => tr (pfz hj) (s.F t)) fun F => k ⟨F, h, s.nx⟩) h))
/-- what is owned and goes into a new row: it is given up first -/
def fzFor (s : AS) : Op → List Nat
  | .buildSlice _ _ parts => canon 0 (partsV s parts.toList) s.h
  | _ => []
where partsV (s : AS) : List (Nat × Operand) → List AV
  | [] => []
  | (_, x) :: r => evA s x :: partsV s r
def stepA (P : Program) (ty : Nat → TyI) (s : AS) (o : Oper) (k : AS → Prop) : Prop :=
  match viewOp ty s o.op with
  | true => wq P ty s (fun v s' => put2 s' o.dst v k) o.op
  | false => match big o.op with
    | true => frzC [] (fzFor s o.op) s fun s => bq P ty s (fun v s' => put2 s' o.dst v k) o.op
    | false => match isCall o.op with
      | true => hq P ty s (fun v => put1 s o.dst v k) o.op ∨ bq P ty s (fun v s' => put2 s' o.dst v k) o.op
      | false => hq P ty s (fun v => put1 s o.dst v k) o.op
def vcO (P : Program) (ty : Nat → TyI) (all : List Oper) : List Oper → (AS → Prop) → AS → Prop
  | [], Q, s => Q s
  | o :: r, Q, s => gdA all s o (stepA P ty s o (vcO P ty all r Q)) (put1 s o.dst .undef (vcO P ty all r Q))
/-- a region that draws its order: first what only answers, then the chain of what changes memory -/
def vcT (P : Program) (ty : Nat → TyI) (l : List Oper) : List (Nat × Bool) → (AS → Prop) → AS → Prop
  | [], Q, s => Q s
  | (i, m) :: r, Q, s => match l[i]? with
    | some o => gdA l s o (match m with
      | true => stepA P ty s o (vcT P ty l r Q)
      | false => match nmOp o.op with
        | true => bq P ty s (fun v s' => put2 s' o.dst v (vcT P ty l r Q)) o.op
        | false => match valCall o.op with
          | true => hq P ty s (fun v => put1 s o.dst v (vcT P ty l r Q)) o.op ∨ callP P s (fun v => put1 s o.dst v (vcT P ty l r Q)) o.op
          | false => hq P ty s (fun v => put1 s o.dst v (vcT P ty l r Q)) o.op) (put1 s o.dst .undef (vcT P ty l r Q))
    | none => False
def vcF (P : Program) (ty : Nat → TyI) (l : List Oper) (ts : List (Nat × Bool)) (zs : List Nat) : List Nat → (AS → Prop) → AS → Prop
  | [], Q, s => vcT P ty l ts Q s
  | i :: r, Q, s => match l[i]? with
    | some o => match o.dst with
      | some d => gdA l s o (match zs.elem i with
        | true => fzq ty s (fun v => put1 s (some d) v (vcF P ty l ts zs r Q)) o.op
        | false => hq P ty s (fun v => put1 s (some d) v (vcF P ty l ts zs r Q)) o.op) (put1 s (some d) .undef (vcF P ty l ts zs r Q))
      | none => False
    | none => False
/-- which operations make up the chain: what changes memory, what is named in cl, and what hangs on these -/
def tsOf (cl : List Nat) (l : List Oper) : Nat → List Oper → List Nat → List (Nat × Bool)
  | _, [], _ => []
  | i, o :: r, ds =>
    let on := (tmpsAt l o).any (hasN ds)
    bif big o.op || (hasN cl i || (hasN cl (i + 1000) || on)) then (i, bif big o.op then (!nmOp o.op || hasN cl i) else hasN cl i) :: tsOf cl l (i + 1) r (o.dst.toList ++ ds) else tsOf cl l (i + 1) r ds
def frOf (ts : List (Nat × Bool)) (n : Nat) : List Nat := (rng 0 n).filter fun i => !hasN (ts.map (·.1)) i
def wrO : List Oper → Nat → Bool
  | [], _ => false
  | o :: r, t => match o.dst with
    | some d => bif Nat.beq d t then true else wrO r t
    | none => wrO r t
def wrB : Code → Nat → Bool
  | .region _ ops _, t => wrO ops.toList t
  | .seq a b, t => bif wrB a t then true else wrB b t
  | .cond _ a b, t => bif wrB a t then true else wrB b t
  | .block _ c, t => wrB c t
  | .loop c, t => wrB c t
  | _, _ => false
def allDst (n : Nat) : List Oper → Bool
  | [] => true
  | o :: r => (match o.dst with | some d => Nat.ble (d + 1) n | none => true) && allDst n r
def wrOk (n : Nat) : Code → Bool
  | .region _ ops _ => allDst n ops.toList
  | .seq a b => wrOk n a && wrOk n b
  | .cond _ a b => wrOk n a && wrOk n b
  | .block _ c => wrOk n c
  | .loop c => wrOk n c
  | _ => true
def assocA : List Nat → List AV → Nat → AV
  | s :: ss, v :: vs, t => bif Nat.beq t s then v else assocA ss vs t
  | _, _, _ => .junk
def canonX (a0 : List Nat) (vs : List AV) (h : List AP) : List Nat :=
  forceN (addN a0 (idsL vs)) fun a => forceN (addN a (cellIds h a)) fun b => addN b (cellIds h b)
/-- what keeps its number in a loop; 9999 in ks: not what the blocks' cells name -/
def canonK (base : Nat) (ks : List Nat) (vs : List AV) (h : List AP) : List Nat :=
  match hasN ks 9999 with
  | true => addN (rng 0 base) (idsL vs)
  | false => canon base vs h
def vals (F : Nat → AV) : List Nat → List AV
  | [] => []
  | t :: r => F t :: vals F r
/-! which slots are written, which are read: as one number each -/
def tb (m t : Nat) : Bool := Nat.beq (Nat.land (Nat.shiftRight m t) 1) 1
def wrMO : List Oper → Nat → Nat
  | [], m => m
  | o :: r, m => match o.dst with
    | some d => wrMO r (Nat.lor m (Nat.shiftLeft 1 d))
    | none => wrMO r m
def wrM : Code → Nat → Nat
  | .region _ ops _, m => wrMO ops.toList m
  | .seq a b, m => wrM b (wrM a m)
  | .cond _ a b, m => wrM b (wrM a m)
  | .block _ c, m => wrM c m
  | .loop c, m => wrM c m
  | _, m => m
def rdX (x : Operand) (m : Nat) : Nat :=
  match x with
  | .tmp t => Nat.lor m (Nat.shiftLeft 1 t)
  | _ => m
def rdXs : List Operand → Nat → Nat
  | [], m => m
  | x :: r, m => rdXs r (rdX x m)
def rdMO : List Oper → Nat → Nat
  | [], m => m
  | o :: r, m => rdMO r (rdXs o.op.operands.toList m)
def rdM : Code → Nat → Nat
  | .region _ ops _, m => rdMO ops.toList m
  | .seq a b, m => rdM b (rdM a m)
  | .cond c a b, m => rdM b (rdM a (rdX c m))
  | .block _ c, m => rdM c m
  | .loop c, m => rdM c m
  | _, m => m
/-- the frame at a loop's head: what the loop writes is forgotten -/
def headF (js0 : List Nat) (M : Nat) (F : Nat → AV) : Nat → AV := fun t =>
  match tb M t with
  | true => .junk
  | false => tr (renT (idx js0)) (F t)
def updS : List Nat → List AV → (Nat → AV) → (Nat → AV)
  | s :: ss, v :: vs, F => updA (updS ss vs F) s v
  | _, _, F => F
/-- what is read and not written is worked out once -/
def pushF (M R : Nat) (G : Nat → AV) : Nat → (Nat → AV) → ((Nat → AV) → Prop) → Prop
  | 0, F, k => k F
  | t + 1, F, k => match tb M t, tb R t with
    | false, true => fc (G t) fun v => pushF M R G t (updA F t v) k
    | _, _ => pushF M R G t F k
/-! where the order of the chain isn't fixed: each that may come next -/
structure VAnd (a b : Prop) : Prop where
  l : a
  r : b
inductive OT where
  | fin | none | bad
  | br (i : Nat) (m : Bool) (sub next : OT)
def otL (f : Nat × Bool → OT) : List (Nat × Bool) → OT
  | [] => .none
  | y :: r => .br y.1 y.2 (f y) (otL f r)
def otOf (l : List Oper) : List (Nat × Bool) → List (Nat × Bool) → OT
  | _, [] => .fin
  | [], _ :: _ => .bad
  | _ :: fu, x :: r => otL (fun y => otOf l fu (rmv y.1 (x :: r))) ((x :: r).filter fun y => rdyO l (x :: r) y.1)
def fcOT : OT → (OT → Prop) → Prop
  | .fin, k => k .fin
  | .none, k => k .none
  | .bad, k => k .bad
  | .br i m a b, k => fcI i fun i => match m with
    | true => fcOT a fun a => fcOT b fun b => k (.br i true a b)
    | false => fcOT a fun a => fcOT b fun b => k (.br i false a b)
theorem fcOT_self : ∀ {t : OT} {k : OT → Prop}, fcOT t k → k t
  | .fin, k, h => h
  | .none, k, h => h
  | .bad, k, h => h
  | .br i m a b, k, h => by
    rw [fcOT] at h
    cases m with
    | true => exact fcOT_self (t := b) (k := fun b => k (.br i true a b)) (fcOT_self (t := a) (k := fun a => fcOT b fun b => k (.br i true a b)) (fcI_self (k := fun i => fcOT a fun a => fcOT b fun b => k (.br i true a b)) h))
    | false => exact fcOT_self (t := b) (k := fun b => k (.br i false a b)) (fcOT_self (t := a) (k := fun a => fcOT b fun b => k (.br i false a b)) (fcI_self (k := fun i => fcOT a fun a => fcOT b fun b => k (.br i false a b)) h))
def vcTT (P : Program) (ty : Nat → TyI) (l : List Oper) (Q : AS → Prop) : OT → AS → Prop
  | .fin, s => Q s
  | .none, _ => True
  | .bad, _ => False
  | .br i m sub .none, s => vcT P ty l [(i, m)] (vcTT P ty l Q sub) s
  | .br i m sub next, s => VAnd (vcT P ty l [(i, m)] (vcTT P ty l Q sub) s) (vcTT P ty l Q next s)
theorem vcTT_br {P : Program} {ty : Nat → TyI} {l : List Oper} {Q : AS → Prop} {i : Nat} {m : Bool} {sub next : OT} {s : AS} (h : vcTT P ty l Q (.br i m sub next) s) : vcT P ty l [(i, m)] (vcTT P ty l Q sub) s ∧ vcTT P ty l Q next s := by
  cases next with
  | none => exact ⟨h, trivial⟩
  | fin => exact ⟨h.l, h.r⟩
  | bad => exact ⟨h.l, h.r⟩
  | br a b c d => exact ⟨h.l, h.r⟩
theorem vcTT_otL {P : Program} {ty : Nat → TyI} {l : List Oper} {Q : AS → Prop} {f : Nat × Bool → OT} {s : AS} : ∀ {rd : List (Nat × Bool)}, vcTT P ty l Q (otL f rd) s → ∀ y ∈ rd, vcT P ty l [y] (vcTT P ty l Q (f y)) s
  | [], _, y, hy => by cases hy
  | z :: r, h, y, hy => by
    rw [otL] at h
    have h := vcTT_br h
    rcases List.mem_cons.1 hy with rfl | hy
    · exact h.1
    · exact vcTT_otL h.2 y hy
structure VDr (k : List Nat → List Nat → List Nat → Prop) : Prop where
  ex : ∃ cl zs js, k cl zs js
/-- a nil slice that is appended to from here on: in a slot, or in a cell of an own block -/
inductive NilAt where
  | slot (t El k : Nat)
  | cell (id off El k : Nat)
  | frz (js : List Nat)
  /-- a nil slice that reads as an empty list from here on -/
  | flat (id off : Nat)
  | flatS (t : Nat)
def nil1 (p : NilAt) (s : AS) : AS :=
  match p with
  | .slot t El k => match s.F t with
    | .nils => ⟨updA s.F t (.own s.nx 0), .row s.nx El k [] :: s.h, s.nx + 1⟩
    | _ => s
  | .cell id off El k => match pos id s.h with
    | some (i, .blk _ cs T) => (match cs[off]? with
      | some .nils => ⟨s.F, .row s.nx El k [] :: s.h.set i (.blk id (cs.set off (.own s.nx 0)) T), s.nx + 1⟩
      | _ => s)
    | _ => s
  | .frz _ => s
  | .flat id off => match pos id s.h with
    | some (i, .blk _ cs T) => (match cs[off]? with
      | some .nils => ⟨s.F, s.h.set i (.blk id (cs.set off (.lst 0 [])) T), s.nx⟩
      | _ => s)
    | _ => s
  | .flatS t => match s.F t with
    | .nils => ⟨updA s.F t (.lst 0 []), s.h, s.nx⟩
    | _ => s
def nilS : List NilAt → AS → (AS → Prop) → Prop
  | [], s, k => k s
  | .frz js :: r, s, k => frzC [] js s fun s => nilS r s k
  | p :: r, s, k => match nil1 p s with
    | ⟨F, h, nx⟩ => fcI nx fun nx => fcH h fun h => nilS r ⟨F, h, nx⟩ k
/-- the slots that a region reads -/
def rdsO : List Oper → List Nat → List Nat
  | [], l => l
  | o :: r, l => rdsO r (rdsX o.op.operands.toList l)
where rdsX : List Operand → List Nat → List Nat
  | [], l => l
  | .tmp t :: r, l => rdsX r (bif l.elem t then l else t :: l)
  | _ :: r, l => rdsX r l
structure VLp (k : List NilAt → List Nat → List Nat → (Nat → List AV → List AP → Prop) → Nat → Prop) : Prop where
  ex : ∃ nl ks ss I k0, k nl ks ss I k0
/-- nil cells that read as empty lists -/
def flatC : AV → AV
  | .nils => .lst 0 []
  | v => v
def flatP : AP → AP
  | .blk id cs T => .blk id (cs.map flatC) T
  | .row id El k rows => .row id El k rows
  | .bag id rs => .bag id rs
def flatH (h : List AP) : List AP := h.map flatP
/-- a round's end: what holds at the loop's head holds anew (fl: nil cells read as empty lists) -/
inductive VRd (N M : Nat) (k : Nat) (I I2 : Nat → Prop) : Prop where
  | mk (le : Nat.ble N M = true) (ex : ∃ k', k' < k ∧ I k')
  | fl (le : Nat.ble N M = true) (ex : ∃ k', k' < k ∧ I2 k')
/-- behind a region that draws its order: one state for all orders; the slots in ss are told by J, what else is written is forgotten -/
structure VJn (k : List Nat → List Nat → List Nat → Nat → (List AV → List AP → Prop) → Prop) : Prop where
  ex : ∃ cl zs ss N J, k cl zs ss N J
structure VJe (N M : Nat) (p : Prop) : Prop where
  le : Nat.ble N M = true
  p : p
def forgF (M : Nat) (F : Nat → AV) : Nat → AV := fun t =>
  match tb M t with
  | true => .junk
  | false => F t
def joinA (base N : Nat) (ss : List Nat) (J : List AV → List AP → Prop) (s' : AS) : Prop :=
  fcN (canon base (vals s'.F ss) s'.h) fun js' => fcL (trL (renT (idx js')) (vals s'.F ss)) fun vs' => fcH ((pickA js' s'.h).map (renP (idx js'))) fun h' => VJe js'.length N (J vs' h')
def vcC (P : Program) (ty : Nat → TyI) (n : Nat) : Code → Nat → APost → AS → Prop
  | .skip, _, Q, s => Q .normal s
  | .region _ ops false, _, Q, s => vcO P ty ops.toList ops.toList (Q .normal) s
  | .region _ ops true, _, Q, s => (VDr fun cl zs js => (match hasN cl 2000 with | true => okDrawT | false => okDraw) ops.toList n (frOf (tsOf cl ops.toList 0 ops.toList []) ops.toList.length) (tsOf cl ops.toList 0 ops.toList []) zs = true ∧
      fcN (rdsO ops.toList []) fun rl => frzC rl js s fun s => match hasN cl 2000 with
        | true => vcF P ty ops.toList [] zs (frOf (tsOf cl ops.toList 0 ops.toList []) ops.toList.length) (fun s => fcOT (otOf ops.toList (tsOf cl ops.toList 0 ops.toList []) (tsOf cl ops.toList 0 ops.toList [])) fun t => vcTT P ty ops.toList (Q .normal) t s) s
        | false => vcF P ty ops.toList (tsOf cl ops.toList 0 ops.toList []) zs (frOf (tsOf cl ops.toList 0 ops.toList []) ops.toList.length) (Q .normal) s) ∨
      (okDraw ops.toList n (rng 0 ops.toList.length) [] [] = true ∧ vcP P ty ops.toList s.h s.nx (fun A => Q .normal ⟨A, s.h, s.nx⟩) ops.toList s.F) ∨
      (VJn fun cl zs ss N J => fcI (wrMO ops.toList 0) fun M => okDrawT ops.toList n (frOf (tsOf cl ops.toList 0 ops.toList []) ops.toList.length) (tsOf cl ops.toList 0 ops.toList []) zs = true ∧
        vcF P ty ops.toList [] zs (frOf (tsOf cl ops.toList 0 ops.toList []) ops.toList.length) (fun s1 => fcOT (otOf ops.toList (tsOf cl ops.toList 0 ops.toList []) (tsOf cl ops.toList 0 ops.toList [])) fun t => vcTT P ty ops.toList (joinA s.nx N ss J) t s1) s ∧
        ∀ vs h, J vs h → Q .normal ⟨updS ss vs (forgF M s.F), h, N⟩)
  | .seq a b, base, Q, s => vcC P ty n a base (fun x s' => match x with | .normal => vcC P ty n b base Q s' | x => Q x s') s
  | .cond c a b, base, Q, s => match evA s c with
    | .bool t => (match t with | true => vcC P ty n a base Q s | false => vcC P ty n b base Q s)
    | _ => False
  | .block id c, base, Q, s => vcC P ty n c base (fun x s' => match x with | .exit id' => (match Nat.beq id' id with | true => Q .normal s' | false => Q (.exit id') s') | x => Q x s') s
  | .exit id, _, Q, s => Q (.exit id) s
  | .ret, _, Q, s => Q .ret s
  | .loop c, base, Q, s => VLp fun nl ks ss I k0 => nilS nl s fun s => fcN (canonK base ks (vals s.F ks) s.h) fun js0 => fcN (canonX js0 (vals s.F ss) s.h) fun js =>
      fcI (wrM c 0) fun M => fcI (rdM c 0) fun R => pushF M R (headF js0 M s.F) n (headF js0 M s.F) fun F =>
      fcL (trL (renT (idx js)) (vals s.F ss)) fun vs0 => fcH ((pickA js s.h).map (renP (idx js))) fun h0 => I k0 vs0 h0 ∧
      ∀ k vs h, I k vs h → vcC P ty n c js0.length (fun x s' => match x with
        | .normal => fcN (canon js0.length (vals s'.F ss) s'.h) fun js' => fcL (trL (renT (idx js')) (vals s'.F ss)) fun vs' => fcH ((pickA js' s'.h).map (renP (idx js'))) fun h' => VRd js'.length js.length k (fun k' => I k' vs' h') (fun k' => I k' vs' (flatH h'))
        | x => Q x s') ⟨updS ss vs F, h, js.length⟩
  | _, _, _, _ => False

/-! it is enough -/
def Agr (W : Nat → Bool) (F F' : Slots) : Prop := ∀ t, W t = false → F' t = F t
def lq (E0 : Env) (W : Nat → Bool) (F0 : Slots) (Q : APost) : Post := fun x F' H' L' => ∃ E' s', E'.H = H' ∧ E0.le E' ∧ RS E' s' F' L' ∧ Q x s' ∧ Agr W F0 F'
theorem Agr.refl (W : Nat → Bool) (F : Slots) : Agr W F F := fun _ _ => rfl
theorem Agr.updO {W : Nat → Bool} {F0 F : Slots} (h : Agr W F0 F) {d : Option Nat} (hd : ∀ d', d = some d' → W d' = true) (v : Value) : Agr W F0 (updO F d v) := fun t ht => by
  cases d with
  | none => exact h t ht
  | some d =>
    have hne : t ≠ d := fun e => by rw [e, hd d rfl] at ht; cases ht
    simp only [Go.Proofs.YtlghgdgpbnlpmaaGreat.updO]
    rw [upd_other _ _ hne]
    exact h t ht
section sound
variable {P : Program} {e : Ent} {E E0 : Env} {s : AS} {F F0 : Slots} {L : List Piece} {W : Nat → Bool} {n : Nat} {ty : Nat → TyI}
theorem hq_opt (ht : ∀ T, TyOk P T (ty T)) {k : AV → Prop} {op : Op} (h : hq P ty s k op) (hr : RS E s F L) : Opt P e op F E.H L (fun v' H' L' => ∃ v, H' = E.H ∧ L' = L ∧ V E v v' ∧ k v) := by
  obtain ⟨v, u, h1, h2, h3⟩ := hq_sound (e := e) ht h hr
  refine (h3 E.H L (.inr ⟨Hp.le.refl _, .inr ⟨[], rfl⟩⟩)).mono ?_
  rintro v' H' L' ⟨rfl, rfl, rfl⟩
  exact ⟨v, rfl, rfl, h2, h1⟩
theorem bq_opt (ht : ∀ T, TyOk P T (ty T)) {k : AV → AS → Prop} {op : Op} (h : bq P ty s k op) (hr : RS E s F L) : Opt P e op F E.H L (fun v' H' L' => ∃ E' s1 v, E'.H = H' ∧ E.le E' ∧ RS E' s1 F L' ∧ V E' v v' ∧ k v s1) := by
  have h0 := h
  unfold bq at h0
  split at h0
  · exact (bq_alloc ht h hr).mono fun v' H' L' ⟨E', s1, v, h1, h2, h3, h4, h5, _⟩ => ⟨E', s1, v, h1, h2, h3, h4, h5⟩
  · exact (bq_box h hr).mono fun v' H' L' ⟨E', s1, v, h1, h2, h3, h4, h5, _⟩ => ⟨E', s1, v, h1, h2, h3, h4, h5⟩
  · exact bq_store ht h hr
  · exact (bq_buildSlice ht h hr).mono fun v' H' L' ⟨E', s1, v, h1, h2, h3, h4, h5, _⟩ => ⟨E', s1, v, h1, h2, h3, h4, h5⟩
  · exact bq_append ht h hr
  · exact bq_slice ht h hr
  · exact bq_nilq ht h hr
  · exact bq_call h hr
  · cases h0
theorem bq_nm (ht : ∀ T, TyOk P T (ty T)) {k : AV → AS → Prop} {op : Op} (hn : nmOp op = true) (h : bq P ty s k op) (hr : RS E s F L) : Opt P e op F E.H L (fun v' H' L' => ∃ E' s1 v, E'.H = H' ∧ E.le E' ∧ RS E' s1 F L' ∧ V E' v v' ∧ k v s1 ∧ ∃ O, L' = O ++ L) := by
  unfold nmOp at hn
  split at hn
  · exact bq_alloc ht h hr
  · exact bq_box h hr
  · exact bq_buildSlice ht h hr
  · cases hn
theorem step_opt (ht : ∀ T, TyOk P T (ty T)) {k : AS → Prop} {o : Oper} (h : stepA P ty s o k) (hr : RS E s F L) : Opt P e o.op F E.H L (fun v' H' L' => ∃ E' s1, E'.H = H' ∧ E.le E' ∧ RS E' s1 (updO F o.dst v') L' ∧ k s1) := by
  have fromH : hq P ty s (fun v => put1 s o.dst v k) o.op → Opt P e o.op F E.H L (fun v' H' L' => ∃ E' s1, E'.H = H' ∧ E.le E' ∧ RS E' s1 (updO F o.dst v') L' ∧ k s1) := fun h =>
    (hq_opt ht h hr).mono fun v' H' L' ⟨v, h1, h2, h3, h4⟩ => by
      subst h1; subst h2
      exact ⟨E, _, rfl, Env.le.refl E, hr.put o.dst h3, put1_self h4⟩
  have fromB : bq P ty s (fun v s' => put2 s' o.dst v k) o.op → Opt P e o.op F E.H L (fun v' H' L' => ∃ E' s1, E'.H = H' ∧ E.le E' ∧ RS E' s1 (updO F o.dst v') L' ∧ k s1) := fun h =>
    (bq_opt ht h hr).mono fun v' H' L' ⟨E', s1, v, h1, h2, h3, h4, h5⟩ => ⟨E', _, h1, h2, h3.put o.dst h4, put2_self h5⟩
  unfold stepA at h
  split at h
  · exact (wq_opt (e := e) ht h hr).mono fun v' H' L' ⟨E', s1, v, h1, h2, h3, h4, h5⟩ => ⟨E', _, h1, h2, h3.put o.dst h4, put2_self h5⟩
  split at h
  · have h := frzC_self h
    refine ⟨fun a o' w K Q ho hop hs hK => ?_⟩
    obtain ⟨H2, L1, L2, g1, g2, g3, _⟩ := frzS_spec (e := e) (fzFor s o.op) hr hs
    refine (bq_opt (e := e) ht h g3).run a o' w K Q ho hop g2 fun v' w' H' L' hs' ⟨E', s1, v, h1, h2, h3, h4, h5⟩ => hK v' w' H' L' hs' ?_
    exact ⟨E', _, h1, (show E.le { E with H := H2 } from ⟨g1, Nat.le_refl _, fun _ _ => rfl, fun _ _ => rfl⟩).trans h2, h3.put o.dst h4, put2_self h5⟩
  · split at h
    · rcases h with h | h
      · exact fromH h
      · exact fromB h
    · exact fromH h
theorem o_optG {Q : Post} {ops : Array Oper} {rest : List Oper} {o : Oper} (hg : o.guard = none) (hd : ∀ d, o.dst = some d → d < n) {R : Value → Hp → List Piece → Prop} {H : Hp} (h : Opt P e o.op F H L R)
    (k : ∀ v H' L', R v H' L' → Ops P e n ops rest (updO F o.dst v) H' L' Q) : Ops P e n ops (o :: rest) F H L Q := by
  obtain ⟨dst, op, ty, pos, af, g⟩ := o
  simp only at hg hd h k
  subst hg
  cases dst with
  | none => exact o_opt0 h k
  | some d => exact o_opt (Nat.ble_eq_true_of_le (hd d rfl)) h k
theorem o_offG {Q : Post} {ops : Array Oper} {rest : List Oper} {o : Oper} {j : Nat} {want : Bool} {H : Hp} (hg : o.guard = some (j, want)) (hd : ∀ d, o.dst = some d → d < n) {d : Nat} (hj : (ops[j]?).bind (·.dst) = some d) (hF : F d = undef ∨ ∃ b, F d = .bool b ∧ b = !want)
    (k : Ops P e n ops rest (updO F o.dst undef) H L Q) : Ops P e n ops (o :: rest) F H L Q :=
  ⟨fun a w hf hs => by
    have hy : yielded ops a.tmps j ≠ some want := by
      have hgd := hf.get d
      intro hy
      simp only [yielded, hj, Option.bind_some] at hy
      rw [Array.getD_eq_getD_getElem?] at hgd
      cases ht : a.tmps[d]? with
      | none => rw [ht] at hy; cases hy
      | some v =>
        rw [ht] at hgd hy
        simp only [Option.getD_some] at hgd
        rcases hF with hF | ⟨b, hF, hb⟩
        · rw [hF] at hgd; subst hgd; simp [undef] at hy
        · rw [hF] at hgd; subst hgd
          simp only [Option.some.injEq] at hy
          rw [hb] at hy
          cases want <;> cases hy
    unfold wpList
    rw [if_neg (by simpa [Region.wanted, hg] using hy)]
    refine k.run _ _ ?_ hs
    cases hdd : o.dst with
    | none => exact hf.skip undef
    | some d' => exact hf.put (hd d' hdd) undef⟩
theorem dst_bind {l : List Oper} {j : Nat} : (l.toArray[j]?).bind (·.dst) = dstAt l j := by simp [dstAt]
theorem o_onG {Q : Post} {l : List Oper} {rest : List Oper} {o : Oper} {j : Nat} {want : Bool} {H : Hp} (hg : o.guard = some (j, want)) {d : Nat} (hj : dstAt l j = some d) (hd : d < n) (hF : F d = .bool want)
    (k : Ops P e n l.toArray ({ o with guard := none } :: rest) F H L Q) : Ops P e n l.toArray (o :: rest) F H L Q := by
  obtain ⟨dst, op, ty, pos, af, g⟩ := o
  simp only at hg k
  subst hg
  exact o_on (d := d) (by rw [dst_bind]; exact hj) (Nat.ble_eq_true_of_le hd) hF rfl k
theorem vcO_sound (ht : ∀ T, TyOk P T (ty T)) {l : List Oper} (hl : ∀ o ∈ l, ∀ d, o.dst = some d → d < n ∧ W d = true) {Q : APost} : ∀ (rest : List Oper) {E : Env} {s : AS} {F : Slots} {L : List Piece}, (∀ o ∈ rest, ∀ d, o.dst = some d → d < n ∧ W d = true) →
    vcO P ty l rest (Q .normal) s → E0.le E → RS E s F L → Agr W F0 F → Ops P e n l.toArray rest F E.H L (lq E0 W F0 Q)
  | [], E, s, F, L, _, h, h0, hr, ha => o_nil ⟨E, s, rfl, h0, hr, h, ha⟩
  | o :: rest, E, s, F, L, hd, h, h0, hr, ha => by
    have hdo := hd o (List.mem_cons_self ..)
    have hrest : ∀ o' ∈ rest, ∀ d, o'.dst = some d → d < n ∧ W d = true := fun o' h' => hd o' (List.mem_cons_of_mem _ h')
    have yes : ∀ o' : Oper, o'.guard = none → o'.op = o.op → o'.dst = o.dst → stepA P ty s o (vcO P ty l rest (Q .normal)) → Ops P e n l.toArray (o' :: rest) F E.H L (lq E0 W F0 Q) := by
      intro o' hg hop hdst hst
      have hO := step_opt (e := e) ht hst hr
      rw [← hop] at hO
      refine o_optG hg (fun d h' => (hdo d (by rw [← hdst]; exact h')).1) hO ?_
      rintro v H' L' ⟨E', s1, rfl, h2, h3, h4⟩
      rw [hdst]
      exact vcO_sound ht hl rest hrest h4 (h0.trans h2) h3 (ha.updO (fun d' h' => (hdo d' h').2) v)
    rw [vcO] at h
    unfold gdA at h
    split at h
    · rename_i hg
      exact yes o hg rfl rfl h
    · rename_i j want hg
      split at h
      · rename_i d hj
        have hdn : d < n := by
          have hjl := dstAt_lt hj
          exact (hl l[j] (List.getElem_mem hjl) d (by simpa [dstAt, List.getElem?_eq_getElem hjl] using hj)).1
        split at h
        · rename_i b hb
          have hF := V_bool (by rw [← hb]; exact hr.f d)
          by_cases hbw : b = want
          · refine o_onG hg hj hdn (by rw [hF, hbw]) ?_
            exact yes _ rfl rfl rfl (by subst hbw; cases b <;> exact h)
          · have hbn : b = !want := by cases b <;> cases want <;> simp_all
            refine o_offG hg (fun d' h' => (hdo d' h').1) (by rw [dst_bind]; exact hj) (.inr ⟨b, hF, hbn⟩) ?_
            exact vcO_sound ht hl rest hrest (put1_self (by subst hbn; cases want <;> exact h)) h0 (hr.put o.dst (by simp only [V])) (ha.updO (fun d' h' => (hdo d' h').2) _)
        · rename_i hb
          have hF : F d = undef := by have := hr.f d; rw [hb] at this; simpa only [V] using this
          refine o_offG hg (fun d' h' => (hdo d' h').1) (by rw [dst_bind]; exact hj) (.inl hF) ?_
          exact vcO_sound ht hl rest hrest (put1_self h) h0 (hr.put o.dst (by simp only [V])) (ha.updO (fun d' h' => (hdo d' h').2) _)
        · cases h
      · cases h
theorem want_of {l : List Oper} {o : Oper} (hr : RS E s F L) {yes no : Prop} (h : gdA l s o yes no) : (wantF l F o = true ∧ yes) ∨ (wantF l F o = false ∧ no) := by
  unfold gdA at h
  unfold wantF
  split at h
  · rename_i hg
    rw [hg]; exact .inl ⟨rfl, h⟩
  · rename_i j want hg
    rw [hg]
    split at h
    · rename_i d hj
      simp only [hj]
      split at h
      · rename_i b hb
        have hF := V_bool (by rw [← hb]; exact hr.f d)
        rw [hF]
        by_cases hbw : b = want
        · exact .inl ⟨by simp [hbw], by subst hbw; cases b <;> exact h⟩
        · have hbn : b = !want := by cases b <;> cases want <;> simp_all
          exact .inr ⟨by simp [hbw], by subst hbn; cases want <;> exact h⟩
      · rename_i hb
        have hF : F d = undef := by have := hr.f d; rw [hb] at this; simpa only [V] using this
        rw [hF]
        exact .inr ⟨rfl, h⟩
      · cases h
    · cases h
theorem vcT_sound (ht : ∀ T, TyOk P T (ty T)) {l : List Oper} (hl : ∀ o ∈ l, ∀ d, o.dst = some d → d < n ∧ W d = true) {Q : APost} : ∀ (ts : List (Nat × Bool)) {E : Env} {s : AS} {F : Slots} {L : List Piece},
    vcT P ty l ts (Q .normal) s → E0.le E → RS E s F L → Agr W F0 F → TCh P e l (lq E0 W F0 Q) ts F E.H L
  | [], E, s, F, L, h, h0, hr, ha => by rw [TCh]; exact ⟨E, s, rfl, h0, hr, h, ha⟩
  | (i, m) :: ts, E, s, F, L, h, h0, hr, ha => by
    rw [vcT] at h
    rw [TCh]
    split at h
    · rename_i o ho
      have hdo := hl o (List.mem_of_getElem? ho)
      refine ⟨o, ho, ?_⟩
      rcases want_of hr h with ⟨hw, h⟩ | ⟨hw, h⟩
      · refine .inl ⟨hw, ?_⟩
        split at h
        · refine (step_opt (e := e) ht h hr).mono ?_
          rintro v H' L' ⟨E', s1, rfl, h2, h3, h4⟩
          exact ⟨⟨h2.H, fun hm => absurd hm (by decide)⟩, vcT_sound ht hl ts h4 (h0.trans h2) h3 (ha.updO (fun d' h' => (hdo d' h').2) v)⟩
        · split at h
          · rename_i hn
            refine (bq_nm (e := e) ht hn h hr).mono ?_
            rintro v H' L' ⟨E', s1, av, rfl, h2, h3, h4, h5, O, h6⟩
            exact ⟨⟨h2.H, fun _ => ⟨O, h6⟩⟩, vcT_sound ht hl ts (put2_self h5) (h0.trans h2) (h3.put o.dst h4) (ha.updO (fun d' h' => (hdo d' h').2) v)⟩
          · have fromH : hq P ty s (fun v => put1 s o.dst v (vcT P ty l ts (Q .normal))) o.op → Opt P e o.op F E.H L (fun v H' L' => (Hp.le E.H H' ∧ (false = false → ∃ O, L' = O ++ L)) ∧ TCh P e l (lq E0 W F0 Q) ts (updO F o.dst v) H' L') := fun h => by
              refine (hq_opt (e := e) ht h hr).mono ?_
              rintro v H' L' ⟨av, rfl, rfl, h3, h4⟩
              exact ⟨⟨Hp.le.refl _, fun _ => ⟨[], rfl⟩⟩, vcT_sound ht hl ts (put1_self h4) h0 (hr.put o.dst h3) (ha.updO (fun d' h' => (hdo d' h').2) v)⟩
            split at h
            · rcases h with h | h
              · exact fromH h
              · refine (callP_opt (e := e) h hr).mono ?_
                rintro v H' L' ⟨E', av, rfl, h2, rfl, h3, h4, h5⟩
                exact ⟨⟨h2.H, fun _ => ⟨[], rfl⟩⟩, vcT_sound ht hl ts (put1_self h5) (h0.trans h2) (h3.put o.dst h4) (ha.updO (fun d' h' => (hdo d' h').2) v)⟩
            · exact fromH h
      · exact .inr ⟨hw, vcT_sound ht hl ts (put1_self h) h0 (hr.put o.dst (by simp only [V])) (ha.updO (fun d' h' => (hdo d' h').2) _)⟩
    · cases h
theorem vcF_sound (ht : ∀ T, TyOk P T (ty T)) {l : List Oper} (hl : ∀ o ∈ l, ∀ d, o.dst = some d → d < n ∧ W d = true) {Q : APost} {ts : List (Nat × Bool)} {zs : List Nat} (h0 : E0.le E) : ∀ (fr : List Nat) {s : AS} {F : Slots},
    vcF P ty l ts zs fr (Q .normal) s → RS E s F L → Agr W F0 F → Free P e l E.H L (lq E0 W F0 Q) zs ts fr F
  | [], s, F, h, hr, ha => by rw [Free]; exact vcT_sound ht hl ts h h0 hr ha
  | i :: fr, s, F, h, hr, ha => by
    rw [vcF] at h
    rw [Free]
    split at h
    · rename_i o ho
      have hdo := hl o (List.mem_of_getElem? ho)
      split at h
      · rename_i d hd
        refine ⟨o, d, ho, hd, ?_⟩
        rcases want_of hr h with ⟨hw, h⟩ | ⟨hw, h⟩
        · have hs : ∃ v u, put1 s (some d) v (vcF P ty l ts zs fr (Q .normal)) ∧ V E v u ∧ StDet P e E.H L (zs.elem i) o.op F u := by
            split at h
            · exact fzq_sound (e := e) ht h hr
            · rename_i hz
              rw [hz]
              exact hq_sound (e := e) ht h hr
          obtain ⟨v, u, h1, h2, h3⟩ := hs
          exact .inl ⟨hw, u, h3, vcF_sound ht hl h0 fr (put1_self h1) (hr.put (some d) h2) (ha.updO (d := some d) (fun d' h' => (hdo d' (by rw [hd]; exact h')).2) u)⟩
        · exact .inr ⟨hw, vcF_sound ht hl h0 fr (put1_self h) (hr.put (some d) (by simp only [V])) (ha.updO (d := some d) (fun d' h' => (hdo d' (by rw [hd]; exact h')).2) _)⟩
      · cases h
    · cases h
theorem TCh_mono {l : List Oper} {Q Q' : Post} (hQ : ∀ F H L, Q .normal F H L → Q' .normal F H L) : ∀ (ts : List (Nat × Bool)) {F : Slots} {H : Hp} {L : List Piece}, TCh P e l Q ts F H L → TCh P e l Q' ts F H L
  | [], F, H, L, h => hQ _ _ _ h
  | (i, m) :: r, F, H, L, h => by
    obtain ⟨o, ho, h⟩ := h
    refine ⟨o, ho, h.imp (fun ⟨h1, h2⟩ => ⟨h1, h2.mono fun v H' L' ⟨h3, h4⟩ => ⟨h3, TCh_mono hQ r h4⟩⟩) (fun ⟨h1, h2⟩ => ⟨h1, TCh_mono hQ r h2⟩)⟩
theorem vcTT_sound (ht : ∀ T, TyOk P T (ty T)) {l : List Oper} (hl : ∀ o ∈ l, ∀ d, o.dst = some d → d < n ∧ W d = true) {Q : APost} : ∀ (fu ts : List (Nat × Bool)) {E : Env} {s : AS} {F : Slots} {L : List Piece},
    vcTT P ty l (Q .normal) (otOf l fu ts) s → E0.le E → RS E s F L → Agr W F0 F → TCT P e l (lq E0 W F0 Q) fu.length ts F E.H L
  | [], [], E, s, F, L, h, h0, hr, ha => ⟨E, s, rfl, h0, hr, h, ha⟩
  | _ :: _, [], E, s, F, L, h, h0, hr, ha => ⟨E, s, rfl, h0, hr, h, ha⟩
  | [], _ :: _, E, s, F, L, h, h0, hr, ha => h.elim
  | z :: fu, x :: r, E, s, F, L, h, h0, hr, ha => by
    intro y hy hrd
    rw [otOf] at h
    have h := vcTT_otL h y (List.mem_filter.2 ⟨hy, hrd⟩)
    have h := vcT_sound (e := e) (Q := fun _ s => vcTT P ty l (Q .normal) (otOf l fu (rmv y.1 (x :: r))) s) ht hl [y] h h0 hr ha
    refine TCh_mono (fun F' H' L' hq => ?_) [y] h
    obtain ⟨E', s', rfl, h2, h3, h4, h5⟩ := hq
    exact vcTT_sound ht hl fu _ h4 h2 h3 h5
theorem Free_mono {l : List Oper} {Q Q' : Post} {ts : List (Nat × Bool)} {zs : List Nat} {H : Hp} (hQ : ∀ F H L, Q .normal F H L → Q' .normal F H L) : ∀ (fr : List Nat) {F : Slots}, Free P e l H L Q zs ts fr F → Free P e l H L Q' zs ts fr F
  | [], F, h => TCh_mono hQ ts h
  | i :: r, F, h => by
    obtain ⟨o, d, ho, hd, h⟩ := h
    exact ⟨o, d, ho, hd, h.imp (fun ⟨h1, v, h2, h3⟩ => ⟨h1, v, h2, Free_mono hQ r h3⟩) (fun ⟨h1, h2⟩ => ⟨h1, Free_mono hQ r h2⟩)⟩
theorem nil1_spec (p : NilAt) (hr : RS E s F L) : ∃ E' L', E'.H = E.H ∧ E.le E' ∧ RS E' (nil1 p s) F L' ∧ ∀ (e : Ent) w, Sees e E.H L w → Sees e E.H L' w := by
  have same : ∃ E' L', E'.H = E.H ∧ E.le E' ∧ RS E' s F L' ∧ ∀ (e : Ent) w, Sees e E.H L w → Sees e E.H L' w := ⟨E, L, rfl, Env.le.refl E, hr, fun _ _ h => h⟩
  have hle := E.addG_le (.slice none 0 0)
  have hlt : s.nx < (E.addG (.slice none 0 0)).nx := by simp only [Env.addG, hr.nx]; omega
  have hg : (E.addG (.slice none 0 0)).g s.nx = .slice none 0 0 := by rw [← hr.nx, E.addG_at]
  have hown : ∀ v, V E .nils v → V (E.addG (.slice none 0 0)) (.own s.nx 0) v := fun v hv => by
    simp only [V] at hv ⊢
    exact ⟨hlt, by rw [hg]; exact hv, none, 0, hv, fun h => absurd h (by decide), Nat.le_refl _⟩
  have hrow : ∀ (El k : Nat), VP (E.addG (.slice none 0 0)) (.row s.nx El k []) (.row (.slice none 0 0) El k []) := fun El k => by
    simp only [VP]
    exact ⟨hlt, ⟨none, 0, by rw [hg]; rfl⟩, [], by rw [hg], by simp only [VLL]⟩
  have hflat : ∀ v, V E .nils v → V E (.lst 0 []) v := fun v hv => by
    simp only [V] at hv ⊢
    exact ⟨none, 0, 0, hv, rfl, Nat.le_refl _, Nat.zero_le _, by simp only [VR]⟩
  unfold nil1
  split
  · rename_i t El k
    split
    · rename_i ht
      have hn := hr.f t
      rw [ht] at hn
      refine ⟨E.addG (.slice none 0 0), .row (.slice none 0 0) El k [] :: L, rfl, hle, ⟨fun t' => ?_, ?_, by simp only [Env.addG, hr.nx]⟩, fun e w hs => hs.nilrow El k⟩
      · simp only [updA]
        cases hb : Nat.beq t' t with
        | true => rw [cond_true, Nat.eq_of_beq_eq_true hb]; exact hown _ hn
        | false => rw [cond_false]; exact (hr.f t').mono hle
      · simp only [VH]
        exact ⟨_, L, rfl, hrow El k, VH_mono hle hr.h⟩
    · exact same
  · rename_i id off El k
    split
    · rename_i i id' cs T hp
      split
      · rename_i ho
        obtain ⟨hid, hi, q, hq, hvp⟩ := pos_spec hr.h hp
        simp only [AP.id] at hid
        subst hid
        simp only [VP] at hvp
        obtain ⟨hlt1, us, rfl, hus⟩ := hvp
        obtain ⟨u, hu, hvu⟩ := VL_get hus ho
        refine ⟨E.addG (.slice none 0 0), .row (.slice none 0 0) El k [] :: L, rfl, hle, ⟨fun t' => (hr.f t').mono hle, ?_, by simp only [Env.addG, hr.nx]⟩, fun e w hs => hs.nilrow El k⟩
        simp only [VH]
        refine ⟨_, L, rfl, hrow El k, ?_⟩
        have hset : L = L.set i (.blk (E.m id') (us.set off u) T) := by
          have h1 : us.set off u = us := by
            apply List.ext_getElem?
            intro j
            rw [List.getElem?_set]
            split
            · rename_i e; subst e; split
              · exact hu.symm
              · rename_i h; rw [List.getElem?_eq_none (by omega)] at hu; cases hu
            · rfl
          rw [h1]
          apply List.ext_getElem?
          intro j
          rw [List.getElem?_set]
          split
          · rename_i e; subst e; split
            · exact hq
            · rename_i h; rw [List.getElem?_eq_none (by omega)] at hq; cases hq
          · rfl
        rw [hset]
        refine VH_set ?_ (VH_mono hle hr.h) i
        simp only [VP]
        exact ⟨Nat.lt_of_lt_of_le hlt1 hle.nx, _, by rw [hle.m id' hlt1], VL_set (hus.mono hle) (hown _ hvu)⟩
      · exact same
    · exact same
  · exact same
  · rename_i id off
    split
    · rename_i i id' cs T hp
      split
      · rename_i ho
        obtain ⟨hid, hi, q, hq, hvp⟩ := pos_spec hr.h hp
        simp only [AP.id] at hid
        subst hid
        simp only [VP] at hvp
        obtain ⟨hlt1, us, rfl, hus⟩ := hvp
        obtain ⟨u, hu, hvu⟩ := VL_get hus ho
        refine ⟨E, L, rfl, Env.le.refl E, ⟨hr.f, ?_, hr.nx⟩, fun _ _ h => h⟩
        have hset : L = L.set i (.blk (E.m id') (us.set off u) T) := by
          have h1 : us.set off u = us := by
            apply List.ext_getElem?
            intro j
            rw [List.getElem?_set]
            split
            · rename_i e; subst e; split
              · exact hu.symm
              · rename_i h; rw [List.getElem?_eq_none (by omega)] at hu; cases hu
            · rfl
          rw [h1]
          apply List.ext_getElem?
          intro j
          rw [List.getElem?_set]
          split
          · rename_i e; subst e; split
            · exact hq
            · rename_i h; rw [List.getElem?_eq_none (by omega)] at hq; cases hq
          · rfl
        rw [hset]
        refine VH_set ?_ hr.h i
        simp only [VP]
        exact ⟨hlt1, _, rfl, VL_set hus (hflat _ hvu)⟩
      · exact same
    · exact same
  · rename_i t
    split
    · rename_i ht
      have hn := hr.f t
      rw [ht] at hn
      refine ⟨E, L, rfl, Env.le.refl E, ⟨fun t' => ?_, hr.h, hr.nx⟩, fun _ _ h => h⟩
      simp only [updA]
      cases hb : Nat.beq t' t with
      | true => rw [cond_true, Nat.eq_of_beq_eq_true hb]; exact hflat _ hn
      | false => rw [cond_false]; exact hr.f t'
    · exact same
theorem nilS_spec : ∀ (nl : List NilAt) {E : Env} {s : AS} {F : Slots} {L : List Piece} {k : AS → Prop} {e : Ent} {w : World}, nilS nl s k → RS E s F L → Sees e E.H L w → ∃ E' s' L', E.le E' ∧ RS E' s' F L' ∧ k s' ∧ Sees e E'.H L' w
  | [], E, s, F, L, k, e, w, h, hr, hs => ⟨E, s, L, Env.le.refl E, hr, h, hs⟩
  | .frz js :: r, E, s, F, L, k, e, w, h, hr, hs => by
    rw [nilS] at h
    have h := frzC_self h
    obtain ⟨H2, L1, L2, g1, g2, g3, _⟩ := frzS_spec (e := e) js hr hs
    obtain ⟨E'', s'', L'', k1, k2, k3, k4⟩ := nilS_spec r h g3 g2
    exact ⟨E'', s'', L'', (show E.le { E with H := H2 } from ⟨g1, Nat.le_refl _, fun _ _ => rfl, fun _ _ => rfl⟩).trans k1, k2, k3, k4⟩
  | .slot t El kk :: r, E, s, F, L, k, e, w, h, hr, hs => by
    rw [nilS] at h
    rotate_left
    · intro js hj; cases hj
    obtain ⟨E', L', h1, h2, h3, h4⟩ := nil1_spec (.slot t El kk) hr
    have h5 : nilS r (nil1 (.slot t El kk) s) k := fcH_self (k := fun h => nilS r ⟨(nil1 (.slot t El kk) s).F, h, (nil1 (.slot t El kk) s).nx⟩ k) (fcI_self (k := fun nx => fcH (nil1 (.slot t El kk) s).h fun h => nilS r ⟨(nil1 (.slot t El kk) s).F, h, nx⟩ k) h)
    obtain ⟨E'', s'', L'', k1, k2, k3, k4⟩ := nilS_spec r h5 h3 (by rw [h1]; exact h4 e w hs)
    exact ⟨E'', s'', L'', h2.trans k1, k2, k3, k4⟩
  | .cell id off El kk :: r, E, s, F, L, k, e, w, h, hr, hs => by
    rw [nilS] at h
    rotate_left
    · intro js hj; cases hj
    obtain ⟨E', L', h1, h2, h3, h4⟩ := nil1_spec (.cell id off El kk) hr
    have h5 : nilS r (nil1 (.cell id off El kk) s) k := fcH_self (k := fun h => nilS r ⟨(nil1 (.cell id off El kk) s).F, h, (nil1 (.cell id off El kk) s).nx⟩ k) (fcI_self (k := fun nx => fcH (nil1 (.cell id off El kk) s).h fun h => nilS r ⟨(nil1 (.cell id off El kk) s).F, h, nx⟩ k) h)
    obtain ⟨E'', s'', L'', k1, k2, k3, k4⟩ := nilS_spec r h5 h3 (by rw [h1]; exact h4 e w hs)
    exact ⟨E'', s'', L'', h2.trans k1, k2, k3, k4⟩
  | .flat id off :: r, E, s, F, L, k, e, w, h, hr, hs => by
    rw [nilS] at h
    rotate_left
    · intro js hj; cases hj
    obtain ⟨E', L', h1, h2, h3, h4⟩ := nil1_spec (.flat id off) hr
    have h5 : nilS r (nil1 (.flat id off) s) k := fcH_self (k := fun h => nilS r ⟨(nil1 (.flat id off) s).F, h, (nil1 (.flat id off) s).nx⟩ k) (fcI_self (k := fun nx => fcH (nil1 (.flat id off) s).h fun h => nilS r ⟨(nil1 (.flat id off) s).F, h, nx⟩ k) h)
    obtain ⟨E'', s'', L'', k1, k2, k3, k4⟩ := nilS_spec r h5 h3 (by rw [h1]; exact h4 e w hs)
    exact ⟨E'', s'', L'', h2.trans k1, k2, k3, k4⟩
  | .flatS t :: r, E, s, F, L, k, e, w, h, hr, hs => by
    rw [nilS] at h
    rotate_left
    · intro js hj; cases hj
    obtain ⟨E', L', h1, h2, h3, h4⟩ := nil1_spec (.flatS t) hr
    have h5 : nilS r (nil1 (.flatS t) s) k := fcH_self (k := fun h => nilS r ⟨(nil1 (.flatS t) s).F, h, (nil1 (.flatS t) s).nx⟩ k) (fcI_self (k := fun nx => fcH (nil1 (.flatS t) s).h fun h => nilS r ⟨(nil1 (.flatS t) s).F, h, nx⟩ k) h)
    obtain ⟨E'', s'', L'', k1, k2, k3, k4⟩ := nilS_spec r h5 h3 (by rw [h1]; exact h4 e w hs)
    exact ⟨E'', s'', L'', h2.trans k1, k2, k3, k4⟩
end sound
end Go.Proofs.YtlghgdgpbnlpmaaGreat
