/- What is proved: the rules of a small separation calculus over the kit's walk: the forms that the walks use. Conditions: none. -/
import Derived.Test.YtlghgdgpbnlpmaaGreatCall
namespace Go.Proofs.YtlghgdgpbnlpmaaGreat
open Go.RowKit

class One (P : Program) (T : TypeId) : Prop where
  ha : ∀ w, (isAgg T).run P w = .ok false w
  hk : ∀ w, (sizeOf T).run P w = .ok 1 w
class Ag (P : Program) (T : TypeId) (k : outParam Nat) : Prop where
  ha : ∀ w, (isAgg T).run P w = .ok true w
  hk : ∀ w, (sizeOf T).run P w = .ok k w
class Ze (P : Program) (T : TypeId) (cs : outParam (List Value)) : Prop where
  ex : ∃ z : Value, (∀ w, (zeroValue T).run P w = .ok z w) ∧ z.cells = cs.toArray

theorem ld1 {P : Program} {H : Hp} {L : List Piece} {T : TypeId} [h : One P T] {A : Addr} {off : Nat} {cs : List Value} {u : Value} (hs : Src H L A cs) (h0 : cs[off]? = some u) : Ld P H L T (A.add off) u := ld_one h.ha hs h0
/-- k cells from off on -/
def getN (cs : List Value) : Nat → Nat → Option (List Value)
  | _, 0 => some []
  | off, k + 1 => match cs[off]?, getN cs (off + 1) k with
    | some u, some r => some (u :: r)
    | _, _ => none
theorem getN_spec {cs : List Value} : ∀ {k off : Nat} {us : List Value}, getN cs off k = some us → us.length = k ∧ ∀ j u, us[j]? = some u → cs[off + j]? = some u
  | 0, off, us, h => by cases h; exact ⟨rfl, fun j u hj => by simp at hj⟩
  | k + 1, off, us, h => by
    unfold getN at h
    split at h
    · next u r h1 h2 =>
      cases h
      obtain ⟨h3, h4⟩ := getN_spec h2
      refine ⟨by simp [h3], fun j v hj => ?_⟩
      cases j with
      | zero => simp at hj; subst hj; exact h1
      | succ j => simp at hj; have := h4 j v hj; rwa [show off + (j + 1) = off + 1 + j by omega]
    · cases h
theorem ldag {P : Program} {H : Hp} {L : List Piece} {T : TypeId} {k : Nat} [h : Ag P T k] {A : Addr} {off : Nat} {cs us : List Value} (hs : Src H L A cs) (h0 : getN cs off k = some us) : Ld P H L T (A.add off) (.agg us.toArray) :=
  ld_agg h.ha h.hk hs (getN_spec h0).1 (getN_spec h0).2

section forms
variable {P : Program} {e : Ent} {n : Nat} {F : Slots} {H : Hp} {L : List Piece} {Q : Post} {ops : Array Oper} {rest : List Oper}
theorem o_load {d : Nat} {T : TypeId} {x : Operand} {ty : TypeId} {pos : String} {af : Array Edge} {A : Addr} {v : Value} (hd : Nat.ble (d + 1) n = true) (hx : ev F x = .pointer (some A)) (h : Ld P H L T A v)
    (k : Ops P e n ops rest (upd F d v) H L Q) : Ops P e n ops (⟨some d, .load T x, ty, pos, af, none⟩ :: rest) F H L Q := o_rv hd (v_load hx h) k
theorem o_alloc' {d : Nat} {T : TypeId} {ty : TypeId} {pos : String} {af : Array Edge} {cs : List Value} [h : Ze P T cs] (hd : Nat.ble (d + 1) n = true)
    (k : ∀ b : Nat, Ops P e n ops rest (upd F d (.pointer (some ((⟨b, 0, none⟩ : Addr).add 0)))) H (.blk b cs T :: L) Q) : Ops P e n ops (⟨some d, .alloc T, ty, pos, af, none⟩ :: rest) F H L Q :=
  let ⟨_, hz, hv⟩ := h.ex; o_alloc hz hd hv k
theorem o_store1 {T : TypeId} [h : One P T] {x y : Operand} {ty : TypeId} {pos : String} {af : Array Edge} {v : Value} {b off : Nat} {cs : List Value} {T' : TypeId} {i : Nat}
    (hx : ev F x = .pointer (some ((⟨b, 0, none⟩ : Addr).add off))) (hL : L[i]? = some (.blk b cs T')) (hy : ev F y = v) (h1 : v.oneCell' = true) (hfit : Nat.ble (off + 1) cs.length = true)
    (k : Ops P e n ops rest F H (L.set i (.blk b (cs.set off v) T')) Q) : Ops P e n ops (⟨none, .store T x y, ty, pos, af, none⟩ :: rest) F H L Q := by
  have hv : v.cells = #[v] := by cases v <;> first | rfl | (simp [Value.oneCell'] at h1)
  exact o_store i h.hk hx hL hy (us := [v]) hv rfl hfit (by simp [h1]) k
theorem o_storeA {T : TypeId} {m : Nat} [h : Ag P T m] {x y : Operand} {ty : TypeId} {pos : String} {af : Array Edge} {us : List Value} {b off : Nat} {cs : List Value} {T' : TypeId} {i : Nat}
    (hx : ev F x = .pointer (some ((⟨b, 0, none⟩ : Addr).add off))) (hL : L[i]? = some (.blk b cs T')) (hy : ev F y = .agg us.toArray) (hl : us.length = m) (h1 : us.all Value.oneCell' = true) (hfit : Nat.ble (off + m) cs.length = true)
    (k : Ops P e n ops rest F H (L.set i (.blk b (splice cs off us) T')) Q) : Ops P e n ops (⟨none, .store T x y, ty, pos, af, none⟩ :: rest) F H L Q :=
  o_store i h.hk hx hL hy rfl hl hfit h1 k

/-- a callee that answers r and leaves nothing that is wanted -/
def FnP (P : Program) (f : FuncId) (args : List Value) (H : Hp) (r : Value) : Prop := Fn P f args.toArray H [] (fun v _ _ => v = r)
theorem Sees.frz {L : List Piece} {w : World} {H' : Hp} (h : Sees e H' L w) (h0 : Hp.le e.H H) (hh : Hp.le H H') : Sees e H L w :=
  have hn : ∀ b, H' b = none → H b = none := fun b hb => by
    cases ho : H b with
    | none => rfl
    | some o => rw [hh b o ho] at hb; cases hb
  ⟨h.os, h.tape, h.output, h.size, h.keep, h0, hh.trans h.le, fun b hb => h.new b (fun h1 => hb (hn b h1)), h.holds, fun p hp b hbb => hn b (h.apart p hp b hbb), h.pw, h.from_⟩
theorem opt_callP {f : FuncId} {xs : List Operand} {ts : Array TypeId} {args : List Value} {r : Value} (ha : xs.map (ev F) = args) (hc : FnP P f args H r) :
    Opt P e (.call { callee := .value (.func f), args := xs.toArray, argTypes := ts }) F H L (fun v H' L' => v = r ∧ H' = H ∧ L' = L) :=
  ⟨fun a o w K Q ho hop hs hK => (opt_call (e := e) (F := F) (g := .func f) (xs := xs.toArray) (ts := ts) (first := #[]) (cap := #[]) (f := f) rfl (by simp [← ha]) hc (List.Perm.refl L)).run a o w K Q ho hop hs
    fun v w' H' L' hs' ⟨h1, O, h2, h3⟩ => by
      subst h2
      exact hK v w' H L ((hs'.sub (List.sublist_append_right O L)).frz hs.le0 h1) ⟨h3, rfl, rfl⟩⟩
theorem o_callP {f : FuncId} {xs : List Operand} {ts : Array TypeId} {args : List Value} {r : Value} {d : Nat} {ty : TypeId} {pos : String} {af : Array Edge}
    (hc : FnP P f args H r) (hd : Nat.ble (d + 1) n = true) (ha : xs.map (ev F) = args) (k : Ops P e n ops rest (upd F d r) H L Q) :
    Ops P e n ops (⟨some d, .call { callee := .value (.func f), args := xs.toArray, argTypes := ts }, ty, pos, af, none⟩ :: rest) F H L Q :=
  o_opt hd (opt_callP ha hc) fun v H' L' ⟨h1, h2, h3⟩ => by subst h1; subst h2; subst h3; exact k
def argF : List Value → Nat → Value
  | [], _ => undef
  | v :: _, 0 => v
  | _ :: r, t + 1 => argF r t
theorem argF_eq : ∀ (vs : List Value) (t : Nat), vs.toArray.getD t undef = argF vs t
  | [], t => by simp [argF]
  | v :: r, 0 => by simp [argF]
  | v :: r, t + 1 => by
    have := argF_eq r t
    simp [argF] at this ⊢
    exact this
theorem fn_in {P : Program} {f : FuncId} {fn : Func} {c : Code} {args : List Value} {H : Hp} {I : List Piece} {R : Value → Hp → List Piece → Prop} (hcall : ∀ (args : Array Value) w, (callFunc f args).run P w = .ok (.enter f args) w)
    (hf : P.funcs[f]? = some fn) (hb : fn.body = some c) (hn : Nat.ble args.length fn.ntmps = true) (h : ∀ w, Tri P ⟨w, H, ownB I⟩ fn.ntmps c (argF args) H I (retQ P fn R)) : Fn P f args.toArray H I R :=
  fn_intro hcall hf hb (by simpa using hn) (fun w => by
    have e : (fun t => args.toArray.getD t undef) = argF args := funext (argF_eq args)
    rw [e]
    exact h w)
theorem fnp_in {P : Program} {f : FuncId} {fn : Func} {c : Code} {args : List Value} {H : Hp} {r : Value} (hcall : ∀ (args : Array Value) w, (callFunc f args).run P w = .ok (.enter f args) w)
    (hf : P.funcs[f]? = some fn) (hb : fn.body = some c) (hn : Nat.ble args.length fn.ntmps = true) (h : ∀ w, Tri P ⟨w, H, ownB []⟩ fn.ntmps c (argF args) H [] (retQ P fn (fun v _ _ => v = r))) : FnP P f args H r :=
  fn_in hcall hf hb hn h
theorem q_ret {fn : Func} {R : Value → Hp → List Piece → Prop} {v : Value} {O : List Piece} (hr : Res P H L F fn.results v) (hO : List.Sublist O L) (hR : R v H O) : retQ P fn R .ret F H L := ⟨v, O, hr, hO, hR⟩
theorem q_retp {fn : Func} {r v : Value} (hr : Res P H L F fn.results v) (hv : v = r) : retQ P fn (fun v _ _ => v = r) .ret F H L := ⟨v, [], hr, List.nil_sublist _, hv⟩
theorem q_end {fn : Func} {R : Value → Hp → List Piece → Prop} (h : retQ P fn R .ret F H L) : retQ P fn R .normal F H L := h
end forms

/-! == on structs and arrays of plain cells -/
inductive Ck where
  | i (k : IntKind)
  | b
  | s
def eqC : Ck → Value → Value → Option Bool
  | .i k, .int k1 a, .int k2 c => if k1 = k ∧ k2 = k then some (a == c) else none
  | .b, .bool a, .bool c => some (a == c)
  | .s, .string a, .string c => some (a.toList == c.toList)
  | _, _, _ => none
def eqS : List Ck → List Value → List Value → Option Bool
  | [], [], [] => some true
  | k :: ss, u :: us, v :: vs =>
    match eqC k u v, eqS ss us vs with
    | some a, some r => some (a && r)
    | _, _ => none
  | _, _, _ => none
theorem eqS_nil {us vs : List Value} {r : Bool} (h : eqS [] us vs = some r) : us = [] ∧ vs = [] ∧ true = r := by
  cases us <;> cases vs <;> simp [eqS] at h ⊢
  exact h
theorem eqS_cons {k : Ck} {ss : List Ck} {us vs : List Value} {r : Bool} (h : eqS (k :: ss) us vs = some r) : ∃ u v us' vs' a r', us = u :: us' ∧ vs = v :: vs' ∧ eqC k u v = some a ∧ eqS ss us' vs' = some r' ∧ (a && r') = r := by
  cases us with
  | nil => cases vs <;> simp [eqS] at h
  | cons u us =>
    cases vs with
    | nil => simp [eqS] at h
    | cons v vs =>
      simp only [eqS] at h
      cases h1 : eqC k u v with
      | none => rw [h1] at h; cases h
      | some a =>
        cases h2 : eqS ss us vs with
        | none => rw [h1, h2] at h; cases h
        | some r' => rw [h1, h2] at h; exact ⟨u, v, us, vs, a, r', rfl, rfl, h1, h2, by simpa using h⟩
theorem eqC_i {k : IntKind} {u v : Value} {r : Bool} (h : eqC (.i k) u v = some r) : ∃ a c, u = .int k a ∧ v = .int k c ∧ (a == c) = r := by
  cases u <;> cases v <;> simp [eqC] at h
  obtain ⟨⟨rfl, rfl⟩, h⟩ := h
  exact ⟨_, _, rfl, rfl, h⟩
theorem eqC_s {u v : Value} {r : Bool} (h : eqC .s u v = some r) : ∃ a c, u = .string a ∧ v = .string c ∧ (a.toList == c.toList) = r := by
  cases u <;> cases v <;> simp [eqC] at h
  exact ⟨_, _, rfl, rfl, by simpa using h⟩
theorem eqC_b {u v : Value} {r : Bool} (h : eqC .b u v = some r) : ∃ a c, u = .bool a ∧ v = .bool c ∧ (a == c) = r := by
  cases u <;> cases v <;> simp [eqC] at h
  exact ⟨_, _, rfl, rfl, by simpa using h⟩
class EqT (P : Program) (T : TypeId) (sh : outParam (List Ck)) : Prop where
  h : ∀ (us vs : List Value) (b : Bool) (w : World), eqS sh us vs = some b → (Op.equalIn (9999 + 1) T (.agg us.toArray) (.agg vs.toArray)).run P w = .ok b w
  g : P.eqGuardType P.depth T = false
section eqs
variable {P : Program} {e : Ent} {F : Slots} {H : Hp} {L : List Piece} {T T' : TypeId} {x y : Operand} {us vs : List Value} {b : Bool} {sh : List Ck}
theorem v_eqA [h : EqT P T sh] (hx : ev F x = .agg us.toArray) (hy : ev F y = .agg vs.toArray) (hq : eqS sh us vs = some b) : Rv P e (.binOp .eql T x y T') F H L (.bool b) :=
  bin_run hx hy (fun w => by simp [eqGuard, program, Sem.run, h.g]) (fun w => by
    show Sem.run P (do pure (Value.bool (← Op.equal T (.agg us.toArray) (.agg vs.toArray)))) w = _
    rw [Sem.run_bind]
    unfold Op.equal
    have := h.h us vs b w hq
    rw [show Op.maxDepth = 9999 + 1 from rfl, this]
    rfl)
theorem v_neA [h : EqT P T sh] (hx : ev F x = .agg us.toArray) (hy : ev F y = .agg vs.toArray) (hq : eqS sh us vs = some b) : Rv P e (.binOp .neq T x y T') F H L (.bool (!b)) :=
  bin_run hx hy (fun w => by simp [eqGuard, program, Sem.run, h.g]) (fun w => by
    show Sem.run P (do pure (Value.bool (!(← Op.equal T (.agg us.toArray) (.agg vs.toArray))))) w = _
    rw [Sem.run_bind]
    unfold Op.equal
    have := h.h us vs b w hq
    rw [show Op.maxDepth = 9999 + 1 from rfl, this]
    rfl)
end eqs

/-! composite values -/
theorem foldl_splice (off : Nat) : ∀ (us : List Value) (s : Nat) (cs : List Value), List.foldl (fun (cs : Array Value) (x : Value × Nat) => cs.setIfInBounds (off + x.2) x.1) cs.toArray (us.zipIdx s) = (splice cs (off + s) us).toArray
  | [], s, cs => by simp [splice]
  | u :: us, s, cs => by
    rw [List.zipIdx_cons, List.foldl_cons]
    simp only [List.setIfInBounds_toArray]
    rw [foldl_splice off us (s + 1) (cs.set (off + s) u), splice]
    rfl
def fillS (pl : List (Nat × Nat)) : List Value → List (Nat × Value) → Option (List Value)
  | cs, [] => some cs
  | cs, (i, v) :: r =>
    match pl[i]? with
    | none => none
    | some (off, size) => bif Nat.beq v.cells.size size && Nat.ble (off + size) cs.length then fillS pl (splice cs off v.cells.toList) r else none
class BdT (P : Program) (T : TypeId) (zs : outParam (List Value)) (pl : outParam (List (Nat × Nat))) : Prop where
  h : ∀ (vs : List (Nat × Value)) (us : List Value) (w : World), fillS pl zs vs = some us → (Instr.build T vs.toArray).run P w = .ok (.agg us.toArray) w
theorem fill_fillS {place : Nat → Option (Nat × Nat)} {pl : List (Nat × Nat)} (hp : ∀ i x, pl[i]? = some x → place i = some x) : ∀ (vs : List (Nat × Value)) (cs us : List Value), fillS pl cs vs = some us → Instr.fill place cs.toArray vs = some us.toArray
  | [], cs, us, h => by
    simp only [fillS, Option.some.injEq] at h
    subst h
    rfl
  | (i, v) :: r, cs, us, h => by
    rw [fillS] at h
    cases hi : pl[i]? with
    | none => rw [hi] at h; cases h
    | some x =>
      obtain ⟨off, size⟩ := x
      rw [hi] at h
      simp only at h
      cases hc : (Nat.beq v.cells.size size && Nat.ble (off + size) cs.length) with
      | false => rw [hc] at h; cases h
      | true =>
        rw [hc, cond_true] at h
        simp only [Bool.and_eq_true] at hc
        have h1 := Nat.eq_of_beq_eq_true hc.1
        have h2 := Nat.le_of_ble_eq_true hc.2
        rw [Instr.fill, hp i _ hi]
        simp only [h1, ne_eq, not_true_eq_false, decide_false, Bool.false_or, List.size_toArray, decide_eq_true_eq]
        rw [if_neg (by omega)]
        have hf := foldl_splice off v.cells.toList 0 cs
        have e1 : v.cells.zipIdx.foldl (fun (cs : Array Value) (x : Value × Nat) => cs.setIfInBounds (off + x.2) x.1) cs.toArray = (splice cs (off + 0) v.cells.toList).toArray := by
          rw [← hf, ← Array.foldl_toList, Array.toList_zipIdx]
        rw [show (v.cells.zipIdx.foldl (fun (cs : Array Value) (x : Value × Nat) => match x with | (c, j) => cs.setIfInBounds (off + j) c) cs.toArray) = (splice cs (off + 0) v.cells.toList).toArray from e1]
        exact fill_fillS hp r _ us h
theorem bd_struct {P : Program} {T : TypeId} {z : Value} {zs : List Value} {fs : Array Field} {pl : List (Nat × Nat)} (hz : ∀ w, (zeroValue T).run P w = .ok z w) (hzc : z.cells = zs.toArray) (hu : P.underlying T = some (.struct fs))
    (hp : ∀ w, (fs.mapM fun f => (do pure (f.offset, ← sizeOf f.type) : Sem (Nat × Nat))).run P w = .ok pl.toArray w) : BdT P T zs pl :=
  ⟨fun vs us w hf => by
    unfold Instr.build
    simp only [Sem.run_bind, hz, Result.andThen_ok, run_underlying hu, hp]
    rw [hzc, fill_fillS (place := fun i => pl.toArray[i]?) (pl := pl) (fun i x hx => by simpa using hx) vs zs us hf]
    rfl⟩
theorem bd_array {P : Program} {T E : TypeId} {z : Value} {zs : List Value} {m k : Nat} {pl : List (Nat × Nat)} (hz : ∀ w, (zeroValue T).run P w = .ok z w) (hzc : z.cells = zs.toArray) (hu : P.underlying T = some (.array m E))
    (hk : ∀ w, (sizeOf E).run P w = .ok k w) (hp : ∀ i x, pl[i]? = some x → (i * k, k) = x) : BdT P T zs pl :=
  ⟨fun vs us w hf => by
    unfold Instr.build
    simp only [Sem.run_bind, hz, Result.andThen_ok, run_underlying hu, hk]
    rw [hzc, fill_fillS (place := fun i => some (i * k, k)) (pl := pl) (fun i x hx => congrArg some (hp i x hx)) vs zs us hf]
    rfl⟩
inductive EvP (F : Slots) : List (Nat × Operand) → List (Nat × Value) → Prop where
  | nil : EvP F [] []
  | cons {i : Nat} {x : Operand} {v : Value} {r : List (Nat × Operand)} {vs : List (Nat × Value)} (h : ev F x = v) (hr : EvP F r vs) : EvP F ((i, x) :: r) ((i, v) :: vs)
theorem EvP.eq {F : Slots} {r : List (Nat × Operand)} {vs : List (Nat × Value)} (h : EvP F r vs) : r.map (fun p => (p.1, ev F p.2)) = vs := by
  induction h with
  | nil => rfl
  | cons h _ ih => simp [h, ih]
inductive EvL (F : Slots) : List Operand → List Value → Prop where
  | nil : EvL F [] []
  | cons {x : Operand} {v : Value} {r : List Operand} {vs : List Value} (h : ev F x = v) (hr : EvL F r vs) : EvL F (x :: r) (v :: vs)
theorem EvL.eq {F : Slots} {r : List Operand} {vs : List Value} (h : EvL F r vs) : r.map (ev F) = vs := by
  induction h with
  | nil => rfl
  | cons h _ ih => simp [h, ih]
section bld
variable {P : Program} {e : Ent} {F : Slots} {H : Hp} {L : List Piece}
theorem v_build {T : TypeId} {zs : List Value} {pl : List (Nat × Nat)} [h : BdT P T zs pl] {parts : List (Nat × Operand)} {vs : List (Nat × Value)} {us : List Value} (hx : parts.map (fun p => (p.1, ev F p.2)) = vs) (hf : fillS pl zs vs = some us) :
    Rv P e (.build T parts.toArray) F H L (.agg us.toArray) :=
  ⟨fun ρ o w ho hop _ => by
    have hm : parts.map (fun p => (p.1, ρ p.2)) = vs := by
      rw [← hx]
      refine List.map_congr_left fun p hp => ?_
      rw [hop p.2 (by simp only [Op.operands, List.mem_toArray, List.mem_map]; exact ⟨p, hp, rfl⟩)]
    unfold execOp; rw [ho]
    simp only [List.map_toArray]
    rw [show (fun x : Nat × Operand => match x with | (i, x) => (i, ρ x)) = (fun p => (p.1, ρ p.2)) from rfl, hm]
    simp only [Sem.run_bind, h.h vs us w hf, Result.andThen_ok, Sem.run_pure]⟩
end bld

end Go.Proofs.YtlghgdgpbnlpmaaGreat
