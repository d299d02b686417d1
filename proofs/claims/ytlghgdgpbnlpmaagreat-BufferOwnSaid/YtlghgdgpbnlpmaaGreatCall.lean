/- What is proved: the rules of a small separation calculus over the kit's walk: slices, calls, returns. Conditions: none. -/
import Derived.Test.YtlghgdgpbnlpmaaGreatMem
namespace Go.Proofs.YtlghgdgpbnlpmaaGreat
open Go.RowKit

/-! slices that are read -/
/-- the slice '.slice a n c' reads as the list l, in the frozen part; k cells an element, which stand to it as R says -/
def Sl {α : Type} (H : Hp) (k : Nat) (R : List Value → α → Prop) (a : Option Addr) (n c : Nat) (l : List α) : Prop :=
  n = l.length ∧ n ≤ c ∧ c ≤ maxLen ∧ ∀ i x, l[i]? = some x → ∃ ad cs, a = some ad ∧ cs.length = k ∧ At H (ad.add (i * k)) cs ∧ R cs x
section sl
variable {α : Type} {H H' : Hp} {k : Nat} {R : List Value → α → Prop} {a : Option Addr} {n c : Nat} {l : List α}
theorem Sl.len (h : Sl H k R a n c l) : n = l.length := h.1
theorem Sl.mono' (h : Sl H k R a n c l) (hh : Hp.le H H') {R' : List Value → α → Prop} (hR : ∀ cs x, x ∈ l → R cs x → R' cs x) : Sl H' k R' a n c l :=
  ⟨h.1, h.2.1, h.2.2.1, fun i x hx => by
    obtain ⟨ad, cs, h1, h2, h3, h4⟩ := h.2.2.2 i x hx
    exact ⟨ad, cs, h1, h2, h3.mono hh, hR cs x (List.mem_of_getElem? hx) h4⟩⟩
theorem Sl.mono (h : Sl H k R a n c l) (hh : Hp.le H H') : Sl H' k R a n c l := h.mono' hh fun _ _ _ hR => hR
theorem Sl.nil : Sl H k R none 0 0 ([] : List α) := ⟨rfl, Nat.le_refl _, Nat.zero_le _, fun i x hx => by simp at hx⟩
theorem Sl.take (h : Sl H k R a n c l) {m : Nat} (hm : m ≤ n) : Sl H k R a m c (l.take m) :=
  ⟨by rw [List.length_take]; have := h.1; omega, Nat.le_trans hm h.2.1, h.2.2.1, fun i x hx => by
    rw [List.getElem?_take] at hx
    split at hx
    · exact h.2.2.2 i x hx
    · cases hx⟩
theorem Sl.drop (h : Sl H k R a n c l) {m : Nat} (hm : m ≤ n) : Sl H k R (if c = m then a else a.map (·.add (m * k))) (n - m) (c - m) (l.drop m) :=
  ⟨by rw [List.length_drop, h.1], Nat.sub_le_sub_right h.2.1 m, Nat.le_trans (Nat.sub_le _ _) h.2.2.1, fun i x hx => by
    rw [List.getElem?_drop] at hx
    obtain ⟨ad, cs, rfl, h2, h3, h4⟩ := h.2.2.2 _ x hx
    have hlt : m + i < l.length := (List.getElem?_eq_some_iff.1 hx).1
    have h1 := h.1
    have h5 := h.2.1
    rw [if_neg (by omega)]
    refine ⟨ad.add (m * k), cs, rfl, h2, ?_, h4⟩
    rw [add_add, ← Nat.add_mul]
    exact h3⟩
end sl

section index
variable {P : Program} {e : Ent} {n : Nat} {F : Slots} {H : Hp} {L : List Piece} {Q : Post} {ops : Array Oper} {rest : List Oper}
theorem v_index {T E : TypeId} {sk bt : Nat} [h : SlT P T E sk bt] {x y : Operand} {ad : Addr} {m c : Nat} {ik : IntKind} {i : Int} {j : Nat} (hx : ev F x = .slice (some ad) m c) (hy : ev F y = .int ik i) (hi : i = (j : Int)) (hj : j < m) :
    Rv P e (.indexAddr T x y) F H L (.pointer (some ((ad.add (j * sk)).add 0))) :=
  ⟨fun ρ o w ho hop _ => by
    unfold execOp; rw [ho]; simp only; rw [hop x (by simp [Op.operands]), hop y (by simp [Op.operands]), hx, hy]
    have h0 : (ad.add (j * sk)).add 0 = ad.add (j * sk) := by rw [add_add]; simp
    obtain ⟨i0, z0, hi0, hz0, hk0, hb0, hzs0⟩ := h.ex
    subst hi
    have h1 : ((0 : Int) ≤ (j : Int) ∧ (j : Int) < (m : Int)) := ⟨by omega, by omega⟩
    simp [Instr.indexAt, run_underlying h.hu, h1, sizeOf, typeInfo, hi0, hk0, h0, asIntOf, hj]⟩
theorem v_arix {T E : TypeId} {N k : Nat} [h : ArT P T N E k] {x y : Operand} {A : Addr} {off : Nat} {ik : IntKind} {i : Int} {j : Nat} (hx : ev F x = .pointer (some (A.add off))) (hy : ev F y = .int ik i) (hi : i = (j : Int)) (hj : j < N) :
    Rv P e (.indexAddr T x y) F H L (.pointer (some (A.add (off + j * k)))) :=
  ⟨fun ρ o w ho hop _ => by
    unfold execOp; rw [ho]; simp only; rw [hop x (by simp [Op.operands]), hop y (by simp [Op.operands]), hx, hy]
    have h0 : (A.add off).add (j * k) = A.add (off + j * k) := add_add _ _ _
    subst hi
    have h1 : ((0 : Int) ≤ (j : Int) ∧ (j : Int) < (N : Int)) := ⟨by omega, by omega⟩
    simp [Instr.indexAt, run_underlying h.hu, h1, h0, h.hk, asIntOf, hj, Instr.sureAddr]⟩
theorem o_index {α : Type} {T E : TypeId} {sk bt : Nat} [h : SlT P T E sk bt] {R : List Value → α → Prop} {x y : Operand} {a : Option Addr} {m c : Nat} {l : List α} {ik : IntKind} {i : Int} {d : Nat} {ty : TypeId} {pos : String} {af : Array Edge} (j : Nat) {z : α}
    (hd : Nat.ble (d + 1) n = true) (hx : ev F x = .slice a m c) (hS : Sl H sk R a m c l) (hy : ev F y = .int ik i) (hi : i = (j : Int)) (hl : l[j]? = some z)
    (k : ∀ A cs, cs.length = sk → At H A cs → R cs z → Ops P e n ops rest (upd F d (.pointer (some (A.add 0)))) H L Q) : Ops P e n ops (⟨some d, .indexAddr T x y, ty, pos, af, none⟩ :: rest) F H L Q := by
  obtain ⟨ad, cs, rfl, h2, h3, h4⟩ := hS.2.2.2 j z hl
  exact o_rv hd (v_index hx hy hi (by rw [hS.1]; exact (List.getElem?_eq_some_iff.1 hl).1)) (k _ cs h2 h3 h4)
end index

/-! calls -/
def ownB (I : List Piece) : Nat → Prop := fun b => ∃ p ∈ I, p.hasB b
/-- the contract of a function: called with these arguments over a frozen part H, owning the pieces I, it returns; what it leaves is as R says, and all else stands -/
def Fn (P : Program) (f : FuncId) (args : Array Value) (H : Hp) (I : List Piece) (R : Value → Hp → List Piece → Prop) : Prop :=
  (∀ (args : Array Value) w, (callFunc f args).run P w = .ok (.enter f args) w) ∧
  ∀ w, Sees ⟨w, H, ownB I⟩ H I w → Calls P f args w fun x w' => ∃ v H' O, x = .returned v ∧ Sees ⟨w, H, ownB I⟩ H' O w' ∧ R v H' O
theorem Fn.mono {P : Program} {f : FuncId} {args : Array Value} {H : Hp} {I : List Piece} {R R' : Value → Hp → List Piece → Prop} (h : Fn P f args H I R) (hR : ∀ v H' O, Hp.le H H' → R v H' O → R' v H' O) : Fn P f args H I R' :=
  ⟨h.1, fun w hs => (h.2 w hs).mono fun _ _ ⟨v, H', O, h1, h2, h3⟩ => ⟨v, H', O, h1, h2, hR v H' O h2.le0 h3⟩⟩

namespace Sees
variable {e : Ent} {H : Hp} {L : List Piece} {w : World}
theorem perm (h : Sees e H L w) {L' : List Piece} (hp : L.Perm L') : Sees e H L' w :=
  ⟨h.os, h.tape, h.output, h.size, h.keep, h.le0, h.le, h.new, fun p hm => h.holds p (hp.mem_iff.2 hm), fun p hm => h.apart p (hp.mem_iff.2 hm), (hp.pairwise_iff (fun hh => hh.symm)).1 h.pw, fun p hm => h.from_ p (hp.mem_iff.2 hm)⟩
/-- what a callee sees -/
theorem enter (h : Sees e H L w) {I Lr : List Piece} (hL : L = I ++ Lr) : Sees ⟨w, H, ownB I⟩ H I w := by
  subst hL
  have hsub : I.Sublist (I ++ Lr) := List.sublist_append_left ..
  have h1 := h.sub hsub
  exact ⟨rfl, rfl, rfl, Nat.le_refl _, fun _ _ _ => rfl, Hp.le.refl _, h.le, fun _ hb => .inl hb, h1.holds, h1.apart, h1.pw, fun p hm b hb => .inl ⟨p, hm, hb⟩⟩
/-- what the caller sees behind -/
theorem leave (h : Sees e H L w) {I Lr O : List Piece} (hL : L = I ++ Lr) {H' : Hp} {w' : World} (h' : Sees ⟨w, H, ownB I⟩ H' O w') : Sees e H' (O ++ Lr) w' := by
  subst hL
  have hpw := List.pairwise_append.1 h.pw
  have hIo : ∀ b, ownB I b → e.own b ∨ e.w.heap.size ≤ b := fun b ⟨p, hm, hb⟩ => h.from_ p (List.mem_append_left _ hm) b hb
  have hlr : ∀ q ∈ Lr, ∀ b, q.hasB b → b < w.heap.size ∧ ¬ ownB I b := fun q hq b hb =>
    ⟨Piece.lt (h.holds q (List.mem_append_right _ hq)) hb, fun ⟨p, hm, hpb⟩ => hpw.2.2 p hm q hq b hpb hb⟩
  refine ⟨h'.os.trans h.os, h'.tape.trans h.tape, h'.output.trans h.output, Nat.le_trans h.size h'.size, ?_, h.le0.trans h'.le0, h'.le, ?_, ?_, ?_, ?_, ?_⟩
  · intro b hlt ho
    refine (h'.keep b (Nat.lt_of_lt_of_le hlt h.size) fun hb => ?_).trans (h.keep b hlt ho)
    rcases hIo b hb with h1 | h1
    · exact ho h1
    · omega
  · intro b hb
    rcases h'.new b hb with h1 | h1 | h1
    · exact h.new b h1
    · exact .inr (hIo b h1)
    · exact .inr (.inr (Nat.le_trans h.size h1))
  · intro p hp
    rcases List.mem_append.1 hp with hp | hp
    · exact h'.holds p hp
    · exact Piece.keep (h.holds p (List.mem_append_right _ hp)) fun b hb => h'.keep b (hlr p hp b hb).1 (hlr p hp b hb).2
  · intro p hp b hb
    rcases List.mem_append.1 hp with hp | hp
    · exact h'.apart p hp b hb
    · cases ho : H' b with
      | none => rfl
      | some o =>
        rcases h'.new b (by rw [ho]; simp) with h1 | h1 | h1
        · exact absurd (h.apart p (List.mem_append_right _ hp) b hb) h1
        · exact absurd h1 (hlr p hp b hb).2
        · exact absurd (hlr p hp b hb).1 (Nat.not_lt.2 h1)
  · refine List.pairwise_append.2 ⟨h'.pw, hpw.2.1, fun p hp q hq b hb hqb => ?_⟩
    rcases h'.from_ p hp b hb with h1 | h1
    · exact (hlr q hq b hqb).2 h1
    · exact absurd (hlr q hq b hqb).1 (Nat.not_lt.2 h1)
  · intro p hp b hb
    rcases List.mem_append.1 hp with hp | hp
    · rcases h'.from_ p hp b hb with h1 | h1
      · exact hIo b h1
      · exact .inr (Nat.le_trans h.size h1)
    · exact h.from_ p (List.mem_append_right _ hp) b hb
/-- what a callee sees that only reads, all memory frozen to it -/
theorem enterB (w : World) : Sees ⟨w, hp w, ownB []⟩ (hp w) [] w :=
  ⟨rfl, rfl, rfl, Nat.le_refl _, fun _ _ _ => rfl, Hp.le.refl _, Hp.le.refl _, fun _ hb => .inl hb, fun p hm => by simp at hm, fun p hm => by simp at hm, List.Pairwise.nil, fun p hm => by simp at hm⟩
theorem below {I : List Piece} (hI : I = []) {H' : Hp} {O : List Piece} {w' : World} (h : Sees ⟨w, H, ownB I⟩ H' O w') : Below w.heap.size w w' :=
  ⟨h.os, h.tape, h.output, h.size, fun b hb => h.keep b hb (by subst hI; rintro ⟨p, hm, _⟩; simp at hm)⟩
theorem leaveB (h : Sees e H L w) {H' : Hp} {O : List Piece} {w' : World} (h' : Sees ⟨w, hp w, ownB []⟩ H' O w') : Sees e H (O ++ L) w' := by
  have hb := Sees.below rfl h'
  have h1 := h.ext hb
  have hO : ∀ p ∈ O, ∀ b, p.hasB b → w.heap.size ≤ b := fun p hm b hbb => by
    rcases h'.from_ p hm b hbb with ⟨q, hq, _⟩ | h2
    · simp at hq
    · exact h2
  refine ⟨h1.os, h1.tape, h1.output, h1.size, h1.keep, h1.le0, h1.le, h1.new, ?_, ?_, ?_, ?_⟩
  · intro p hp
    rcases List.mem_append.1 hp with hp | hp
    · exact h'.holds p hp
    · exact h1.holds p hp
  · intro p hp b hbb
    rcases List.mem_append.1 hp with hp | hp
    · cases ho : H b with
      | none => rfl
      | some o => exact absurd (Hp.lt h.le (b := b) (by rw [ho]; simp)) (Nat.not_lt.2 (hO p hp b hbb))
    · exact h1.apart p hp b hbb
  · refine List.pairwise_append.2 ⟨h'.pw, h1.pw, fun p hp q hq b hbb hqb => ?_⟩
    exact absurd (Piece.lt (h.holds q hq) hqb) (Nat.not_lt.2 (hO p hp b hbb))
  · intro p hp b hbb
    rcases List.mem_append.1 hp with hp | hp
    · exact .inr (Nat.le_trans h.size (hO p hp b hbb))
    · exact h1.from_ p hp b hbb
end Sees

section callrules
variable {P : Program} {e : Ent} {n : Nat} {F : Slots} {H : Hp} {L : List Piece} {Q : Post} {ops : Array Oper} {rest : List Oper}
theorem call_exec {ρ : Operand → Value} {o : Oper} {g : Operand} {xs : Array Operand} {ts : Array TypeId} {f : FuncId} {first cap args : Array Value} {w : World} (ho : o.op = .call { callee := .value g, args := xs, argTypes := ts })
    (hg : ρ g = .func (.func f) first cap) (ha : first ++ xs.map ρ ++ cap = args) (hc : ∀ (args : Array Value) w, (callFunc f args).run P w = .ok (.enter f args) w) : (execOp ρ o).run P w = .ok (.enter f args) w := by
  unfold execOp; rw [ho]
  simp only [resolve, hg, Deferred.ofValue, invoke, Sem.run_bind, Sem.run_pure, Result.andThen_ok, ha, hc]
theorem opt_call {g : Operand} {xs : Array Operand} {ts : Array TypeId} {f : FuncId} {first cap args : Array Value} {I Lr : List Piece} {R : Value → Hp → List Piece → Prop} (hg : ev F g = .func (.func f) first cap)
    (ha : first ++ xs.map (ev F) ++ cap = args) (hc : Fn P f args H I R) (hL : L.Perm (I ++ Lr)) :
    Opt P e (.call { callee := .value g, args := xs, argTypes := ts }) F H L (fun v H' L' => Hp.le H H' ∧ ∃ O, L' = O ++ Lr ∧ R v H' O) :=
  ⟨fun a o w K Q ho hop hs hK => by
    have hs1 := hs.perm hL
    have hx : xs.map a.eval = xs.map (ev F) := Array.map_congr_left fun x hm => hop x (by simp [Op.operands, Call.operands, hm])
    have hr := call_exec (P := P) (ρ := a.eval) (w := w) (args := args) ho (by rw [hop g (by simp [Op.operands, Call.operands]), hg]) (by rw [hx]; exact ha) hc.1
    unfold Oper.wp
    rw [hr]
    show Calls P f args w _
    refine (hc.2 w (hs1.enter rfl)).mono ?_
    rintro x w' ⟨v, H', O, rfl, h1, h2⟩
    exact hK v w' H' (O ++ Lr) (hs1.leave rfl h1) ⟨h1.le0, O, rfl, h2⟩⟩
theorem o_call {g : Operand} {xs : Array Operand} {ts : Array TypeId} {f : FuncId} {first cap args : Array Value} {I Lr : List Piece} {R : Value → Hp → List Piece → Prop} {d : Nat} {ty : TypeId} {pos : String} {af : Array Edge}
    (hc : Fn P f args H I R) (hd : Nat.ble (d + 1) n = true) (hg : ev F g = .func (.func f) first cap) (ha : first ++ xs.map (ev F) ++ cap = args) (hL : L.Perm (I ++ Lr))
    (k : ∀ v H' O, Hp.le H H' → R v H' O → Ops P e n ops rest (upd F d v) H' (O ++ Lr) Q) : Ops P e n ops (⟨some d, .call { callee := .value g, args := xs, argTypes := ts }, ty, pos, af, none⟩ :: rest) F H L Q :=
  o_opt hd (opt_call hg ha hc hL) fun v H' L' ⟨h1, O, h2, h3⟩ => by subst h2; exact k v H' O h1 h3
/-- no piece handed over -/
theorem o_call0 {g : Operand} {xs : Array Operand} {ts : Array TypeId} {f : FuncId} {first cap args : Array Value} {R : Value → Hp → List Piece → Prop} {d : Nat} {ty : TypeId} {pos : String} {af : Array Edge}
    (hc : Fn P f args H [] R) (hd : Nat.ble (d + 1) n = true) (hg : ev F g = .func (.func f) first cap) (ha : first ++ xs.map (ev F) ++ cap = args)
    (k : ∀ v H' O, Hp.le H H' → R v H' O → Ops P e n ops rest (upd F d v) H' (O ++ L) Q) : Ops P e n ops (⟨some d, .call { callee := .value g, args := xs, argTypes := ts }, ty, pos, af, none⟩ :: rest) F H L Q :=
  o_call hc hd hg ha (List.Perm.refl _) k
theorem opt_callB {g : Operand} {xs : Array Operand} {ts : Array TypeId} {f : FuncId} {first cap args : Array Value} {R : Value → List Piece → Prop} (hg : ev F g = .func (.func f) first cap)
    (ha : first ++ xs.map (ev F) ++ cap = args) (hc : ∀ w, Sees e H L w → Fn P f args (hp w) [] (fun v _ O => R v O)) :
    Opt P e (.call { callee := .value g, args := xs, argTypes := ts }) F H L (fun v H' L' => H' = H ∧ ∃ O, L' = O ++ L ∧ R v O) :=
  ⟨fun a o w K Q ho hop hs hK => by
    have hx : xs.map a.eval = xs.map (ev F) := Array.map_congr_left fun x hm => hop x (by simp [Op.operands, Call.operands, hm])
    have hr := call_exec (P := P) (ρ := a.eval) (w := w) (args := args) ho (by rw [hop g (by simp [Op.operands, Call.operands]), hg]) (by rw [hx]; exact ha) (hc w hs).1
    unfold Oper.wp
    rw [hr]
    show Calls P f args w _
    refine ((hc w hs).2 w (Sees.enterB w)).mono ?_
    rintro x w' ⟨v, H', O, rfl, h1, h2⟩
    exact hK v w' H (O ++ L) (hs.leaveB h1) ⟨rfl, O, rfl, h2⟩⟩
/-- a callee that only reads (owned pieces too) -/
theorem o_callB {g : Operand} {xs : Array Operand} {ts : Array TypeId} {f : FuncId} {first cap args : Array Value} {R : Value → List Piece → Prop} {d : Nat} {ty : TypeId} {pos : String} {af : Array Edge}
    (hc : ∀ w, Sees e H L w → Fn P f args (hp w) [] (fun v _ O => R v O)) (hd : Nat.ble (d + 1) n = true) (hg : ev F g = .func (.func f) first cap) (ha : first ++ xs.map (ev F) ++ cap = args)
    (k : ∀ v O, R v O → Ops P e n ops rest (upd F d v) H (O ++ L) Q) : Ops P e n ops (⟨some d, .call { callee := .value g, args := xs, argTypes := ts }, ty, pos, af, none⟩ :: rest) F H L Q :=
  o_opt hd (opt_callB hg ha hc) fun v H' L' ⟨h1, O, h2, h3⟩ => by subst h1; subst h2; exact k v O h3
end callrules

/-! returns -/
inductive RV (P : Program) (H : Hp) (L : List Piece) (F : Slots) : ResultVar → Value → Prop where
  | tmp {t : Tmp} {v : Value} (h : F t = v) : RV P H L F (.tmp t) v
  | cell {t : Tmp} {T : TypeId} {A : Addr} {v : Value} (h : F t = .pointer (some A)) (hl : Ld P H L T A v) : RV P H L F (.cell t T) v
def resF (tmps : Array Value) (r : ResultVar) : Sem Value :=
  match r with
  | .tmp t => pure (tmps.getD t undef)
  | .cell x t => do loadVar t (← asAddr (tmps.getD x undef))
theorem run_resF {P : Program} {e : Ent} {H : Hp} {L : List Piece} {F : Slots} {a : Act} {n : Nat} {w : World} (hf : Fr a F n) (hs : Sees e H L w) {r : ResultVar} {v : Value} (h : RV P H L F r v) : (resF a.tmps r).run P w = .ok v w := by
  cases h with
  | tmp h => simp [resF, hf.get, h]
  | cell h hl =>
    simp only [resF, hf.get, h, asAddr, Sem.run_bind, Sem.run_pure, Result.andThen_ok, hl.run e w hs]
theorem results_resF (fn : Func) (tmps : Array Value) : results fn tmps = (do let vs ← fn.results.mapM (resF tmps); pure (if h : vs.size = 1 then vs[0] else .tuple vs)) := rfl
inductive Res (P : Program) (H : Hp) (L : List Piece) (F : Slots) : Array ResultVar → Value → Prop where
  | r0 : Res P H L F #[] (.tuple #[])
  | r1 {r : ResultVar} {v : Value} (h : RV P H L F r v) : Res P H L F #[r] v
  | r2 {r r' : ResultVar} {v v' : Value} (h : RV P H L F r v) (h' : RV P H L F r' v') : Res P H L F #[r, r'] (.tuple #[v, v'])
  | r3 {r r' r'' : ResultVar} {v v' v'' : Value} (h : RV P H L F r v) (h' : RV P H L F r' v') (h'' : RV P H L F r'' v'') : Res P H L F #[r, r', r''] (.tuple #[v, v', v''])
def retQ (P : Program) (fn : Func) (R : Value → Hp → List Piece → Prop) : Post
  | .normal, F, H, L | .ret, F, H, L => ∃ v O, Res P H L F fn.results v ∧ List.Sublist O L ∧ R v H O
  | _, _, _, _ => False
theorem run_results {P : Program} {e : Ent} {H : Hp} {L : List Piece} {F : Slots} {a : Act} {n : Nat} {w : World} {fn : Func} {v : Value} (hf : Fr a F n) (hs : Sees e H L w) (h : Res P H L F fn.results v) :
    (results fn a.tmps).run P w = .ok v w := by
  rw [results_resF]
  generalize fn.results = rs at h
  cases h with
  | r0 => simp
  | r1 h => simp [run_resF hf hs h]
  | r2 h h' => simp [run_resF hf hs h, run_resF hf hs h']
  | r3 h h' h'' => simp [run_resF hf hs h, run_resF hf hs h', run_resF hf hs h'']
theorem fn_intro {P : Program} {f : FuncId} {fn : Func} {c : Code} {args : Array Value} {H : Hp} {I : List Piece} {R : Value → Hp → List Piece → Prop} (hcall : ∀ (args : Array Value) w, (callFunc f args).run P w = .ok (.enter f args) w)
    (hf : P.funcs[f]? = some fn) (hb : fn.body = some c) (hn : Nat.ble args.size fn.ntmps = true)
    (h : ∀ w, Tri P ⟨w, H, ownB I⟩ fn.ntmps c (fun t => args.getD t undef) H I (retQ P fn R)) : Fn P f args H I R :=
  ⟨hcall, fun w hs => by
    refine calls_of_wp hf hb ?_
    have hfr : Fr { tmps := args ++ Array.replicate (fn.ntmps - args.size) undef, defers := [] } (fun t => args.getD t undef) fn.ntmps := by
      refine ⟨rfl, ?_, fun t => ?_⟩
      · have := Nat.le_of_ble_eq_true hn
        simp only [Array.size_append, Array.size_replicate]
        omega
      · simp only [Array.getD_eq_getD_getElem?, Array.getElem?_append, Array.getElem?_replicate]
        split
        · rfl
        · rename_i hlt
          rw [Array.getElem?_eq_none (by omega)]
          split <;> rfl
    refine wp_mono ((h w).run _ w hfr hs) ?_
    rintro x a' w' ⟨F', H', L', h1, h2, h3⟩
    have key : (∃ v O, Res P H' L' F' fn.results v ∧ List.Sublist O L' ∧ R v H' O) → a'.defers = [] ∧ ∃ v, (results fn a'.tmps).run P w' = .ok v w' ∧ ∃ v' H'' O, Ending.returned v = .returned v' ∧ Sees ⟨w, H, ownB I⟩ H'' O w' ∧ R v' H'' O := by
      rintro ⟨vs, O, hr, hsub, hR⟩
      exact ⟨h1.defers, _, run_results h1 h2 hr, _, _, _, rfl, h2.sub hsub, hR⟩
    cases x with
    | normal => exact key h3
    | ret => exact key h3
    | exit id => exact h3.elim
    | goto l => exact h3.elim
    | panic ch => exact h3.elim
    | outgrown => exact h3.elim⟩

end Go.Proofs.YtlghgdgpbnlpmaaGreat
