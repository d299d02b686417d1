/- What is proved: the rules of a small separation calculus over the kit's walk: operations. Conditions: none. -/
import Derived.Test.YtlghgdgpbnlpmaaGreatTri
namespace Go.Proofs.YtlghgdgpbnlpmaaGreat
open Go.RowKit

/-! what is known of the program's types -/
class SlT (P : Program) (T : TypeId) (E : outParam TypeId) (k : outParam Nat) (bytes : outParam Nat) : Prop where
  hu : P.underlying T = some (.slice E)
  ex : ∃ i z, P.info? E = some i ∧ i.zero = some z ∧ i.size = k ∧ i.bytes = bytes ∧ z.cells.size = k
  hpos : 0 < k
class Fld (P : Program) (T : TypeId) (f : Nat) (off : outParam Nat) : Prop where
  h : ∀ (A : Addr) (w : World), (Instr.fieldAt T (.pointer (some A)) f).run P w = .ok (.pointer (some (A.add off))) w
class ArT (P : Program) (T : TypeId) (n : outParam Nat) (E : outParam TypeId) (k : outParam Nat) : Prop where
  hu : P.underlying T = some (.array n E)
  hk : ∀ w, (sizeOf E).run P w = .ok k w
  big : 1 < n
class BlT (P : Program) (T : TypeId) : Prop where
  hu : P.underlying T = some .bool
class StT (P : Program) (T : TypeId) : Prop where
  hu : P.underlying T = some .string

/-- a quiet operation: it answers v and leaves the world -/
structure Rv (P : Program) (e : Ent) (op : Op) (F : Slots) (H : Hp) (L : List Piece) (v : Value) : Prop where
  run : ∀ (ρ : Operand → Value) (o : Oper) (w : World), o.op = op → (∀ x ∈ op.operands, ρ x = ev F x) → Sees e H L w → (execOp ρ o).run P w = .ok (.value v) w

section steps
variable {P : Program} {e : Ent} {n : Nat} {F : Slots} {H : Hp} {L : List Piece} {Q : Post} {ops : Array Oper} {rest : List Oper}
theorem o_rv {d : Nat} {op : Op} {ty : TypeId} {pos : String} {af : Array Edge} {v : Value} (hd : Nat.ble (d + 1) n = true) (h : Rv P e op F H L v)
    (k : Ops P e n ops rest (upd F d v) H L Q) : Ops P e n ops (⟨some d, op, ty, pos, af, none⟩ :: rest) F H L Q :=
  ⟨fun a w hf hs => wpList_plain rfl fun K hK => by
    have hr := h.run a.eval ⟨some d, op, ty, pos, af, none⟩ w rfl (fun x _ => by rw [hf.eval]) hs
    unfold Oper.wp
    rw [hr]
    exact hK _ _ (k.run _ _ (hf.put (Nat.le_of_ble_eq_true hd) v) hs)⟩
/-- an operation that changes the world -/
structure Opt (P : Program) (e : Ent) (op : Op) (F : Slots) (H : Hp) (L : List Piece) (R : Value → Hp → List Piece → Prop) : Prop where
  run : ∀ (a : Act) (o : Oper) (w : World) (K : Act → World → Prop) (Q : Exit → Act → World → Prop), o.op = op → (∀ x ∈ op.operands, a.eval x = ev F x) → Sees e H L w →
    (∀ v w' H' L', Sees e H' L' w' → R v H' L' → K (a.put o.dst v) w') → o.wp P a w K Q
theorem o_opt {d : Nat} {op : Op} {ty : TypeId} {pos : String} {af : Array Edge} {R : Value → Hp → List Piece → Prop} (hd : Nat.ble (d + 1) n = true) (h : Opt P e op F H L R)
    (k : ∀ v H' L', R v H' L' → Ops P e n ops rest (upd F d v) H' L' Q) : Ops P e n ops (⟨some d, op, ty, pos, af, none⟩ :: rest) F H L Q :=
  ⟨fun a w hf hs => wpList_plain rfl fun K hK =>
    h.run a _ w K _ rfl (fun x _ => by rw [hf.eval]) hs fun v w' H' L' hs' hR => hK _ _ ((k v H' L' hR).run _ _ (hf.put (Nat.le_of_ble_eq_true hd) v) hs')⟩
theorem o_opt0 {op : Op} {ty : TypeId} {pos : String} {af : Array Edge} {R : Value → Hp → List Piece → Prop} (h : Opt P e op F H L R)
    (k : ∀ v H' L', R v H' L' → Ops P e n ops rest F H' L' Q) : Ops P e n ops (⟨none, op, ty, pos, af, none⟩ :: rest) F H L Q :=
  ⟨fun a w hf hs => wpList_plain rfl fun K hK =>
    h.run a _ w K _ rfl (fun x _ => by rw [hf.eval]) hs fun v w' H' L' hs' hR => hK _ _ ((k v H' L' hR).run _ _ (hf.skip v) hs')⟩
theorem opt_rv {op : Op} {v : Value} (h : Rv P e op F H L v) : Opt P e op F H L (fun v' H' L' => v' = v ∧ H' = H ∧ L' = L) :=
  ⟨fun a o w K Q ho hx hs hK => by
    have hr := h.run a.eval o w ho hx hs
    unfold Oper.wp
    rw [hr]
    exact hK _ _ _ _ hs ⟨rfl, rfl, rfl⟩⟩
/-- the operation's guard says yes -/
theorem o_on {d j : Nat} {op : Op} {dst : Option Nat} {ty : TypeId} {pos : String} {af : Array Edge} {want b : Bool} (hj : (ops[j]?).bind (·.dst) = some d) (hd : Nat.ble (d + 1) n = true) (hF : F d = .bool b) (hb : b = want)
    (k : Ops P e n ops (⟨dst, op, ty, pos, af, none⟩ :: rest) F H L Q) : Ops P e n ops (⟨dst, op, ty, pos, af, some (j, want)⟩ :: rest) F H L Q :=
  ⟨fun a w hf hs => by
    have h1 := k.run a w hf hs
    have hy : yielded ops a.tmps j = some want := by
      have hg := hf.get d
      rw [hF] at hg
      have hlt : d < a.tmps.size := by rw [hf.size]; exact Nat.le_of_ble_eq_true hd
      have : a.tmps[d]? = some (.bool b) := by
        rw [Array.getD_eq_getD_getElem?, Array.getElem?_eq_getElem hlt] at hg
        rw [Array.getElem?_eq_getElem hlt]
        exact congrArg some hg
      simp [yielded, hj, this, hb]
    unfold wpList at h1 ⊢
    rw [if_pos (by simp [Region.wanted])] at h1
    rw [if_pos (by simp [Region.wanted, hy])]
    exact h1⟩
/-- the operation's guard says no -/
theorem o_off {d d' j : Nat} {op : Op} {ty : TypeId} {pos : String} {af : Array Edge} {want b : Bool} (hj : (ops[j]?).bind (·.dst) = some d) (hd' : Nat.ble (d' + 1) n = true) (hF : F d = .bool b) (hb : b = !want)
    (k : Ops P e n ops rest (upd F d' undef) H L Q) : Ops P e n ops (⟨some d', op, ty, pos, af, some (j, want)⟩ :: rest) F H L Q :=
  ⟨fun a w hf hs => by
    have hy : yielded ops a.tmps j ≠ some want := by
      have hg := hf.get d
      rw [hF] at hg
      intro hy
      simp only [yielded, hj, Option.bind_some] at hy
      rw [Array.getD_eq_getD_getElem?] at hg
      cases ht : a.tmps[d]? with
      | none => rw [ht] at hy; cases hy
      | some v =>
        rw [ht] at hg hy
        simp only [Option.getD_some] at hg
        subst hg
        simp only [Option.some.injEq] at hy
        rw [hb] at hy
        cases want <;> cases hy
    unfold wpList
    rw [if_neg (by simpa [Region.wanted] using hy)]
    exact k.run _ _ (hf.put (Nat.le_of_ble_eq_true hd') undef) hs⟩
/-- the operation on which the guard hangs wasn't carried out -/
theorem o_off' {d d' j : Nat} {op : Op} {ty : TypeId} {pos : String} {af : Array Edge} {want : Bool} (hj : (ops[j]?).bind (·.dst) = some d) (hd' : Nat.ble (d' + 1) n = true) (hF : F d = undef)
    (k : Ops P e n ops rest (upd F d' undef) H L Q) : Ops P e n ops (⟨some d', op, ty, pos, af, some (j, want)⟩ :: rest) F H L Q :=
  ⟨fun a w hf hs => by
    have hy : yielded ops a.tmps j ≠ some want := by
      have hg := hf.get d
      rw [hF] at hg
      intro hy
      simp only [yielded, hj, Option.bind_some] at hy
      rw [Array.getD_eq_getD_getElem?] at hg
      cases ht : a.tmps[d]? with
      | none => rw [ht] at hy; cases hy
      | some v =>
        rw [ht] at hg hy
        simp only [Option.getD_some] at hg
        subst hg
        simp [undef] at hy
    unfold wpList
    rw [if_neg (by simpa [Region.wanted] using hy)]
    exact k.run _ _ (hf.put (Nat.le_of_ble_eq_true hd') undef) hs⟩
theorem o_split {d d' j : Nat} {op : Op} {ty : TypeId} {pos : String} {af : Array Edge} {want b : Bool} (hj : (ops[j]?).bind (·.dst) = some d) (hd : Nat.ble (d + 1) n = true) (hd' : Nat.ble (d' + 1) n = true) (hF : F d = .bool b)
    (k1 : b = want → Ops P e n ops (⟨some d', op, ty, pos, af, none⟩ :: rest) F H L Q) (k2 : b = !want → Ops P e n ops rest (upd F d' undef) H L Q) : Ops P e n ops (⟨some d', op, ty, pos, af, some (j, want)⟩ :: rest) F H L Q := by
  by_cases hb : b = want
  · exact o_on hj hd hF hb (k1 hb)
  · have hb' : b = !want := by cases b <;> cases want <;> simp_all
    exact o_off hj hd' hF hb' (k2 hb')
end steps

section values
variable {P : Program} {e : Ent} {F : Slots} {H : Hp} {L : List Piece}
theorem v_move {x : Operand} {v : Value} (hx : ev F x = v) : Rv P e (.move x) F H L v :=
  ⟨fun ρ o w ho hop _ => by unfold execOp; rw [ho]; simp only; rw [hop x (by simp [Op.operands]), hx]; rfl⟩
theorem v_assign {x : Operand} {v : Value} (hx : ev F x = v) : Rv P e (.assign x) F H L v :=
  ⟨fun ρ o w ho hop _ => by unfold execOp; rw [ho]; simp only; rw [hop x (by simp [Op.operands]), hx]; rfl⟩
theorem v_pick_t {c x y : Operand} {b : Bool} {v : Value} (hc : ev F c = .bool b) (hb : b = true) (hx : ev F x = v) : Rv P e (.pick c x y) F H L v :=
  ⟨fun ρ o w ho hop _ => by unfold execOp; rw [ho]; simp only; rw [hop c (by simp [Op.operands]), hop x (by simp [Op.operands]), hc, hx, hb]; rfl⟩
theorem v_pick_f {c x y : Operand} {b : Bool} {v : Value} (hc : ev F c = .bool b) (hb : b = false) (hy : ev F y = v) : Rv P e (.pick c x y) F H L v :=
  ⟨fun ρ o w ho hop _ => by unfold execOp; rw [ho]; simp only; rw [hop c (by simp [Op.operands]), hop y (by simp [Op.operands]), hc, hy, hb]; rfl⟩
theorem v_not {T : TypeId} {x : Operand} {b : Bool} (hx : ev F x = .bool b) : Rv P e (.unOp .not T x) F H L (.bool (!b)) :=
  ⟨fun ρ o w ho hop _ => by unfold execOp; rw [ho]; simp only; rw [hop x (by simp [Op.operands]), hx]; rfl⟩
theorem v_neg {T : TypeId} {x : Operand} {k : IntKind} {m : Int} (hx : ev F x = .int k m) : Rv P e (.unOp .neg T x) F H L (.int k (k.wrap (0 - m))) :=
  ⟨fun ρ o w ho hop _ => by unfold execOp; rw [ho]; simp only; rw [hop x (by simp [Op.operands]), hx]; rfl⟩
theorem v_extract {x : Operand} {i : Nat} {vs : Array Value} {v : Value} (hx : ev F x = .tuple vs) (hi : vs[i]? = some v) : Rv P e (.extract x i) F H L v :=
  ⟨fun ρ o w ho hop _ => by
    unfold execOp; rw [ho]; simp only; rw [hop x (by simp [Op.operands]), hx]
    simp [Instr.extract, hi]⟩

theorem bin_run {op : BinOp} {T T' : TypeId} {x y : Operand} {u v r : Value} (hx : ev F x = u) (hy : ev F y = v) (hg : ∀ w, (eqGuard op T x y u v).run P w = .ok () w) (hb : ∀ w, (binOp op T u v).run P w = .ok r w) :
    Rv P e (.binOp op T x y T') F H L r :=
  ⟨fun ρ o w ho hop _ => by
    unfold execOp; rw [ho]; simp only; rw [hop x (by simp [Op.operands]), hop y (by simp [Op.operands]), hx, hy]
    simp [Sem.run_bind, hg, hb]⟩
section ints
variable {T T' : TypeId} {x y : Operand} {k : IntKind} {m n : Int}
theorem v_lss (hx : ev F x = .int k m) (hy : ev F y = .int k n) : Rv P e (.binOp .lss T x y T') F H L (.bool (decide (m < n))) :=
  bin_run hx hy (fun _ => rfl) (fun w => by simp [binOp, Op.intCmp])
theorem v_leq (hx : ev F x = .int k m) (hy : ev F y = .int k n) : Rv P e (.binOp .leq T x y T') F H L (.bool (decide (m ≤ n))) :=
  bin_run hx hy (fun _ => rfl) (fun w => by simp [binOp, Op.intCmp])
theorem v_gtr (hx : ev F x = .int k m) (hy : ev F y = .int k n) : Rv P e (.binOp .gtr T x y T') F H L (.bool (decide (n < m))) :=
  bin_run hx hy (fun _ => rfl) (fun w => by simp [binOp, Op.intCmp])
theorem v_geq (hx : ev F x = .int k m) (hy : ev F y = .int k n) : Rv P e (.binOp .geq T x y T') F H L (.bool (decide (n ≤ m))) :=
  bin_run hx hy (fun _ => rfl) (fun w => by simp [binOp, Op.intCmp])
theorem v_eql (hx : ev F x = .int k m) (hy : ev F y = .int k n) : Rv P e (.binOp .eql T x y T') F H L (.bool (m == n)) :=
  bin_run hx hy (fun _ => rfl) (fun w => by simp [binOp, Op.intCmp])
theorem v_neq (hx : ev F x = .int k m) (hy : ev F y = .int k n) : Rv P e (.binOp .neq T x y T') F H L (.bool (m != n)) :=
  bin_run hx hy (fun _ => rfl) (fun w => by simp [binOp, Op.intCmp])
theorem v_add (hx : ev F x = .int k m) (hy : ev F y = .int k n) : Rv P e (.binOp .add T x y T') F H L (.int k (k.wrap (m + n))) :=
  bin_run hx hy (fun _ => rfl) (fun w => by simp [binOp, Op.intArith])
theorem v_sub (hx : ev F x = .int k m) (hy : ev F y = .int k n) : Rv P e (.binOp .sub T x y T') F H L (.int k (k.wrap (m - n))) :=
  bin_run hx hy (fun _ => rfl) (fun w => by simp [binOp, Op.intArith])
theorem v_mul (hx : ev F x = .int k m) (hy : ev F y = .int k n) : Rv P e (.binOp .mul T x y T') F H L (.int k (k.wrap (m * n))) :=
  bin_run hx hy (fun _ => rfl) (fun w => by simp [binOp, Op.intArith])
theorem wrap_in {n : Int} (h : -9223372036854775808 ≤ n ∧ n ≤ 9223372036854775807) : IntKind.i64.wrap n = n := IntWalk.i64_in n h
theorem v_add_in (hx : ev F x = .int .i64 m) (hy : ev F y = .int .i64 n) (h : -9223372036854775808 ≤ m + n ∧ m + n ≤ 9223372036854775807) : Rv P e (.binOp .add T x y T') F H L (.int .i64 (m + n)) := by
  have := v_add (P := P) (e := e) (H := H) (L := L) (T := T) (T' := T') hx hy
  rwa [wrap_in h] at this
theorem v_sub_in (hx : ev F x = .int .i64 m) (hy : ev F y = .int .i64 n) (h : -9223372036854775808 ≤ m - n ∧ m - n ≤ 9223372036854775807) : Rv P e (.binOp .sub T x y T') F H L (.int .i64 (m - n)) := by
  have := v_sub (P := P) (e := e) (H := H) (L := L) (T := T) (T' := T') hx hy
  rwa [wrap_in h] at this
end ints
section bools
variable {T T' : TypeId} {x y : Operand} {b c : Bool}
theorem run_equal_bool [h : BlT P T] (b c : Bool) (w : World) : (Op.equal T (.bool b) (.bool c)).run P w = .ok (b == c) w := by
  unfold Op.equal
  show Sem.run P (Op.equalIn (9999 + 1) T (.bool b) (.bool c)) w = _
  rw [Op.equalIn, Sem.run_bind, run_underlying h.hu]
  rfl
theorem v_beql [h : BlT P T] (hx : ev F x = .bool b) (hy : ev F y = .bool c) : Rv P e (.binOp .eql T x y T') F H L (.bool (b == c)) :=
  bin_run hx hy (fun _ => rfl) (fun w => by
    show Sem.run P (do pure (Value.bool (← Op.equal T (.bool b) (.bool c)))) w = _
    rw [Sem.run_bind, run_equal_bool]
    rfl)
theorem v_bneq [h : BlT P T] (hx : ev F x = .bool b) (hy : ev F y = .bool c) : Rv P e (.binOp .neq T x y T') F H L (.bool (b != c)) :=
  bin_run hx hy (fun _ => rfl) (fun w => by
    show Sem.run P (do pure (Value.bool (!(← Op.equal T (.bool b) (.bool c))))) w = _
    rw [Sem.run_bind, run_equal_bool]
    rfl)
end bools
section strings
variable {T T' : TypeId} {x y : Operand} {s t : ByteArray}
theorem v_seql (hx : ev F x = .string s) (hy : ev F y = .string t) : Rv P e (.binOp .eql T x y T') F H L (.bool (s.toList == t.toList)) :=
  bin_run hx hy (fun _ => rfl) (fun w => by simp [binOp, Op.stringOp])
theorem v_sneq (hx : ev F x = .string s) (hy : ev F y = .string t) : Rv P e (.binOp .neq T x y T') F H L (.bool (!(s.toList == t.toList))) :=
  bin_run hx hy (fun _ => rfl) (fun w => by simp [binOp, Op.stringOp])
theorem v_slss (hx : ev F x = .string s) (hy : ev F y = .string t) : Rv P e (.binOp .lss T x y T') F H L (.bool (Op.bytesLess s.toList t.toList)) :=
  bin_run hx hy (fun _ => rfl) (fun w => by simp [binOp, Op.stringOp])
theorem v_sgtr (hx : ev F x = .string s) (hy : ev F y = .string t) : Rv P e (.binOp .gtr T x y T') F H L (.bool (!(Op.bytesLess s.toList t.toList || s.toList == t.toList))) :=
  bin_run hx hy (fun _ => rfl) (fun w => by simp [binOp, Op.stringOp])
theorem v_sleq (hx : ev F x = .string s) (hy : ev F y = .string t) : Rv P e (.binOp .leq T x y T') F H L (.bool (Op.bytesLess s.toList t.toList || s.toList == t.toList)) :=
  bin_run hx hy (fun _ => rfl) (fun w => by simp [binOp, Op.stringOp])
theorem v_sgeq (hx : ev F x = .string s) (hy : ev F y = .string t) : Rv P e (.binOp .geq T x y T') F H L (.bool (!Op.bytesLess s.toList t.toList)) :=
  bin_run hx hy (fun _ => rfl) (fun w => by simp [binOp, Op.stringOp])
theorem v_slen {ty : TypeId} [h : StT P ty] {x : Operand} {s : ByteArray} (hx : ev F x = .string s) : Rv P e (.call { callee := .builtin .len, args := #[x], argTypes := #[ty] }) F H L (.int .i64 (s.size : Int)) :=
  ⟨fun ρ o w ho hop _ => by
    unfold execOp; rw [ho]; simp only [resolve, invoke, builtin, List.map_toArray, List.map_cons, List.map_nil]; rw [hop x (by simp [Op.operands, Call.operands]), hx]
    simp [Builtin.len_, run_underlying h.hu, goInt]⟩
end strings
theorem v_len {ty E : TypeId} {k b : Nat} [h : SlT P ty E k b] {x : Operand} {a : Option Addr} {n c : Nat} (hx : ev F x = .slice a n c) : Rv P e (.call { callee := .builtin .len, args := #[x], argTypes := #[ty] }) F H L (.int .i64 (n : Int)) :=
  ⟨fun ρ o w ho hop _ => by
    unfold execOp; rw [ho]; simp only [resolve, invoke, builtin, List.map_toArray, List.map_cons, List.map_nil]; rw [hop x (by simp [Op.operands, Call.operands]), hx]
    simp [Builtin.len_, run_underlying h.hu, goInt]⟩
theorem v_max {ty ty' : TypeId} {x y : Operand} {k : IntKind} {m n : Int} (hx : ev F x = .int k m) (hy : ev F y = .int k n) : Rv P e (.call { callee := .builtin .max, args := #[x, y], argTypes := #[ty, ty'] }) F H L (.int k (if n > m then n else m)) :=
  ⟨fun ρ o w ho hop _ => by
    unfold execOp; rw [ho]; simp only [resolve, invoke, builtin, List.map_toArray, List.map_cons, List.map_nil]
    rw [hop x (by simp [Op.operands, Call.operands]), hop y (by simp [Op.operands, Call.operands]), hx, hy]
    simp [Builtin.max_, Builtin.max2]⟩
theorem v_min {ty ty' : TypeId} {x y : Operand} {k : IntKind} {m n : Int} (hx : ev F x = .int k m) (hy : ev F y = .int k n) : Rv P e (.call { callee := .builtin .min, args := #[x, y], argTypes := #[ty, ty'] }) F H L (.int k (if n < m then n else m)) :=
  ⟨fun ρ o w ho hop _ => by
    unfold execOp; rw [ho]; simp only [resolve, invoke, builtin, List.map_toArray, List.map_cons, List.map_nil]
    rw [hop x (by simp [Op.operands, Call.operands]), hop y (by simp [Op.operands, Call.operands]), hx, hy]
    simp [Builtin.min_, Builtin.min2]⟩
theorem v_nilCheck {x : Operand} {A : Addr} (hx : ev F x = .pointer (some A)) : Rv P e (.nilCheck x) F H L (.pointer (some A)) :=
  ⟨fun ρ o w ho hop _ => by unfold execOp; rw [ho]; simp only; rw [hop x (by simp [Op.operands]), hx]; rfl⟩
theorem v_makeFunc {f : FuncId} {xs : Array Operand} {vs : Array Value} (hx : xs.map (ev F) = vs) : Rv P e (.makeFunc (.func f) #[] xs) F H L (.func (.func f) #[] vs) :=
  ⟨fun ρ o w ho hop _ => by
    have : xs.map ρ = vs := by
      rw [← hx]
      exact Array.map_congr_left fun x hm => hop x (by simpa [Op.operands] using hm)
    unfold execOp; rw [ho]; simp only [this, List.map_toArray, List.map_nil]; rfl⟩
theorem v_convInt {S D : TypeId} {x : Operand} {k k' : IntKind} {m : Int} (hs : ∀ w, (convert S D (.int k m)).run P w = .ok (.int k' (k'.wrap m)) w) (hx : ev F x = .int k m) : Rv P e (.convert S D x) F H L (.int k' (k'.wrap m)) :=
  ⟨fun ρ o w ho hop _ => by
    unfold execOp; rw [ho]; simp only; rw [hop x (by simp [Op.operands]), hx]
    simp [hs]⟩
/-- the address of a field -/
theorem v_field {T : TypeId} {f fo : Nat} [h : Fld P T f fo] {x : Operand} {A : Addr} {off : Nat} (hx : ev F x = .pointer (some (A.add off))) : Rv P e (.fieldAddr T x f) F H L (.pointer (some (A.add (off + fo)))) :=
  ⟨fun ρ o w ho hop _ => by
    unfold execOp; rw [ho]; simp only; rw [hop x (by simp [Op.operands]), hx]
    have : (A.add off).add fo = A.add (off + fo) := by
      unfold Addr.add
      by_cases hi : off = 0 <;> by_cases hj : fo = 0 <;> simp [hi, hj, Nat.add_assoc]
    simp [h.h, this]⟩
end values

end Go.Proofs.YtlghgdgpbnlpmaaGreat
