/- What is proved: the rules of a small separation calculus over the kit's walk: append, a store into an own row. Conditions: none. -/
import Derived.Test.YtpifafhcjloncaaFree
import Derived.Laws.OwnMore
namespace Go.Proofs.Ytpifafhcjloncaa
open Go.RowKit

section more
variable {P : Program} {e : Ent} {n : Nat} {F : Slots} {H : Hp} {L : List Piece} {Q : Post} {ops : Array Oper} {rest : List Oper} {d : Nat} {ty : TypeId} {pos : String} {af : Array Edge} {l : List Oper} {m : Bool} {tr : List (Nat × Bool)}
/-- append to an own row what another own row holds -/
theorem opt_app {t E E' : TypeId} {sk bt : Nat} [h : SlT P t E sk bt] {s x : Operand} {v : Value} {rows rows' R : List (List Value)} {N : Nat} {a' : Option Addr} {n' c' : Nat} (i j : Nat) (hs1 : ev F s = v) (hL : L[i]? = some (.row v E sk rows)) (hx1 : ev F x = .slice a' n' c')
    (hJ : L[j]? = some (.row (.slice a' n' c') E' sk rows')) (hn : rows'.length = n') (hk : rows'.all (fun r => Nat.beq r.length sk && r.all Value.oneCell') = true) (hb : Nat.ble bt 65536 = true) (hN : rows.length + rows'.length = N) (hlen : N ≤ 2147483648) (hR : rows ++ rows' = R) :
    Opt P e (.call { callee := .builtin .append, args := #[s, x], argTypes := #[t, t] }) F H L (fun v' H' L' => ∃ a c, (0 < N → ∃ g, a = some ⟨g, 0, none⟩) ∧ v' = .slice a N c ∧ H' = H ∧ L' = L.set i (.row v' E sk R)) := by
  subst hN; subst hR
  have hall : ∀ r ∈ rows', r.length = sk ∧ r.all Value.oneCell' = true := fun r hr => by
    have := List.all_eq_true.1 hk r hr
    simp only [Bool.and_eq_true] at this
    exact ⟨Nat.eq_of_beq_eq_true this.1, this.2⟩
  have hbt := Nat.le_of_ble_eq_true hb
  have hmul : (rows.length + rows'.length) * bt ≤ 140737488355328 := Nat.le_trans (Nat.mul_le_mul hlen hbt) (by decide)
  have h0 := opt_append (t := t) (E := E) (P := P) (e := e) (F := F) (H := H) i hs1 hL hx1 (rsrc_row hJ rfl hn.symm (fun r hr => (hall r hr).1)) (fun c hc => by
    obtain ⟨r, hr, hcr⟩ := List.mem_flatten.1 hc
    exact List.all_eq_true.1 (hall r hr).2 c hcr) (by simp only [maxLen]; omega) hmul
  exact ⟨fun a o w K Q ho hop hs hK => h0.run a o w K Q ho hop hs fun v w' H' L' hs' ⟨a, c, h1, _, _, h4, h5, h6⟩ => hK v w' H' L' hs' ⟨a, c, h4, h1, h5, h6⟩⟩
theorem o_app {t E E' : TypeId} {sk bt : Nat} [h : SlT P t E sk bt] {s x : Operand} {v : Value} {rows rows' R : List (List Value)} {N : Nat} {a' : Option Addr} {n' c' : Nat} (i j : Nat) (hd : Nat.ble (d + 1) n = true) (hs1 : ev F s = v) (hL : L[i]? = some (.row v E sk rows)) (hx1 : ev F x = .slice a' n' c')
    (hJ : L[j]? = some (.row (.slice a' n' c') E' sk rows')) (hn : rows'.length = n') (hk : rows'.all (fun r => Nat.beq r.length sk && r.all Value.oneCell') = true) (hb : Nat.ble bt 65536 = true) (hN : rows.length + rows'.length = N) (hlen : N ≤ 2147483648) (hR : rows ++ rows' = R)
    (k : ∀ a c, (0 < N → ∃ g, a = some ⟨g, 0, none⟩) → Ops P e n ops rest (upd F d (.slice a N c)) H (L.set i (.row (.slice a N c) E sk R)) Q) :
    Ops P e n ops (⟨some d, .call { callee := .builtin .append, args := #[s, x], argTypes := #[t, t] }, ty, pos, af, none⟩ :: rest) F H L Q :=
  o_opt hd (opt_app i j hs1 hL hx1 hJ hn hk hb hN hlen hR) fun v H' L' ⟨a, c, h0, h1, h2, h3⟩ => by subst h1; subst h2; subst h3; exact k a c h0
theorem c_app {t E E' : TypeId} {sk bt : Nat} [h : SlT P t E sk bt] {s x : Operand} {v : Value} {rows rows' R : List (List Value)} {N : Nat} {a' : Option Addr} {n' c' : Nat} (i j : Nat) (hs1 : ev F s = v) (hL : L[i]? = some (.row v E sk rows)) (hx1 : ev F x = .slice a' n' c')
    (hJ : L[j]? = some (.row (.slice a' n' c') E' sk rows')) (hn : rows'.length = n') (hk : rows'.all (fun r => Nat.beq r.length sk && r.all Value.oneCell') = true) (hb : Nat.ble bt 65536 = true) (hN : rows.length + rows'.length = N) (hlen : N ≤ 2147483648) (hR : rows ++ rows' = R)
    (k : ∀ a c, (0 < N → ∃ g, a = some ⟨g, 0, none⟩) → TCh P e l Q tr (upd F d (.slice a N c)) H (L.set i (.row (.slice a N c) E sk R))) :
    TS P e l Q tr true ⟨some d, .call { callee := .builtin .append, args := #[s, x], argTypes := #[t, t] }, ty, pos, af, none⟩ F H L :=
  c_opt (opt_app i j hs1 hL hx1 hJ hn hk hb hN hlen hR) fun v H' L' ⟨a, c, h0, h1, h2, h3⟩ => by subst h1; subst h2; subst h3; exact ⟨(fun h => by cases h), k a c h0⟩

theorem flatten_set {k : Nat} : ∀ {rows : List (List Value)}, (∀ r ∈ rows, r.length = k) → ∀ {j : Nat} {r : List Value}, rows[j]? = some r → ∀ {i : Nat}, i < k → ∀ (u : Value), rows.flatten.set (j * k + i) u = (rows.set j (r.set i u)).flatten
  | [], _, j, r, hj, _, _, _ => by simp at hj
  | r0 :: rows, hk, 0, r, hj, i, hi, u => by
    simp only [List.getElem?_cons_zero, Option.some.injEq] at hj
    subst hj
    have h0 := hk r0 (List.mem_cons_self ..)
    simp only [Nat.zero_mul, Nat.zero_add, List.flatten_cons, List.set_cons_zero]
    rw [List.set_append_left _ _ (by omega)]
  | r0 :: rows, hk, j + 1, r, hj, i, hi, u => by
    simp only [List.getElem?_cons_succ] at hj
    have h0 := hk r0 (List.mem_cons_self ..)
    have ih := flatten_set (fun r hr => hk r (List.mem_cons_of_mem _ hr)) hj hi u
    simp only [List.flatten_cons, List.set_cons_succ]
    rw [List.set_append_right _ _ (by rw [h0, Nat.add_mul]; omega), ← ih, h0]
    congr 2
    rw [Nat.add_mul]
    omega
theorem opt_sto {T E : TypeId} [hT : One P T] {x y : Operand} {v : Value} {g N c off j sk : Nat} {rows : List (List Value)} {r : List Value} (i : Nat) (hx : ev F x = .pointer (some (((⟨g, 0, none⟩ : Addr).add (j * sk)).add off)))
    (hL : L[i]? = some (.row (.slice (some ⟨g, 0, none⟩) N c) E sk rows)) (hj : rows[j]? = some r) (hy : ev F y = v) (h1 : v.oneCell' = true) (hoff : Nat.ble (off + 1) sk = true) :
    Opt P e (.store T x y) F H L (fun _ H' L' => H' = H ∧ L' = L.set i (.row (.slice (some ⟨g, 0, none⟩) N c) E sk (rows.set j (r.set off v)))) :=
  ⟨fun a o w K Q ho hop hs hK => by
    obtain ⟨hp1, hp2⟩ := hs.holds _ (List.mem_of_getElem? hL)
    have hoff' := Nat.le_of_ble_eq_true hoff
    have hN : rows.length = N := by
      rcases hp1.2 with ⟨h, _⟩ | ⟨g', cap, cur, h, _⟩
      · cases h
      · cases h; rfl
    subst hN
    have hjl : j < rows.length := (List.getElem?_eq_some_iff.1 hj).1
    have hlt : j * sk + off < rows.length * sk := by
      have : (j + 1) * sk ≤ rows.length * sk := Nat.mul_le_mul_right _ hjl
      rw [Nat.add_mul] at this
      omega
    have hadd : ((⟨g, 0, none⟩ : Addr).add (j * sk)).add off = ⟨g, j * sk + off, none⟩ := by rw [add_add]; unfold Addr.add; split <;> simp_all
    obtain ⟨hst, hgr⟩ := hp1.stored (j * sk + off) v
    have hfl := flatten_set hp2 hj (show off < sk by omega) v
    rw [hfl] at hst
    have hrow : ∀ q ∈ rows.set j (r.set off v), q.length = sk := by
      intro q hq
      rcases List.mem_or_eq_of_mem_set hq with hq | rfl
      · exact hp2 q hq
      · rw [List.length_set]; exact hp2 r (List.mem_of_getElem? hj)
    have hcell : w.cell? ⟨g, j * sk + off, none⟩ = rows.flatten[j * sk + off]? := hp1.cellAt _ hlt
    have hrun : (execOp a.eval o).run P w = .ok .skip (w.setCell ⟨g, j * sk + off, none⟩ v) := by
      unfold execOp; rw [ho]; simp only; rw [hop x (by simp [Op.operands]), hop y (by simp [Op.operands]), hx, hy, hadd]
      have hfz : w.frozen? ⟨g, j * sk + off, none⟩ = false := hp1.frozenAt _
      have hcs : w.cell? ⟨g, j * sk + off, none⟩ ≠ none := by
        rw [hcell]
        have : j * sk + off < rows.flatten.length := by rw [flatten_len rows hp2]; exact hlt
        rw [List.getElem?_eq_getElem this]
        simp
      have hr := run_store P w ⟨g, j * sk + off, none⟩ v .plain h1
      have hr2 : (store ⟨g, j * sk + off, none⟩ v).run P w = .ok () (w.setCell ⟨g, j * sk + off, none⟩ v) := by
        rw [hr]
        cases hc2 : w.cell? ⟨g, j * sk + off, none⟩ with
        | none => exact absurd hc2 hcs
        | some u => simp [hfz]
      have hv : v.cells = #[v] := by cases v <;> first | rfl | (simp [Value.oneCell'] at h1)
      have h0 : (⟨g, j * sk + off, none⟩ : Addr).add 0 = ⟨g, j * sk + off, none⟩ := by simp [Addr.add]
      simp only [Instr.storeAt, Instr.sureAddr, storeVar, Sem.run_bind, Sem.run_pure, Result.andThen_ok, hT.hk, hv, List.size_toArray, List.length_cons, List.length_nil, ne_eq, not_true_eq_false, if_false, storeCells, h0, hr2]
    unfold Oper.wp
    rw [hrun]
    have hs' := hs.change (q := .row (.slice (some ⟨g, 0, none⟩) rows.length c) E sk (rows.set j (r.set off v))) hL hgr.os hgr.tape hgr.output hgr.size (fun b hb hne => hgr.block b hb (fun ec => hne (by simp [Piece.at?, Value.ownBlock, ec])))
      ⟨by simpa using hst, hrow⟩ (fun b hb => .inl hb)
    exact hK _ _ _ _ hs' ⟨rfl, rfl⟩⟩
theorem o_sto {T E : TypeId} [hT : One P T] {x y : Operand} {v : Value} {g N c off j sk : Nat} {rows : List (List Value)} {r : List Value} (i : Nat) (hx : ev F x = .pointer (some (((⟨g, 0, none⟩ : Addr).add (j * sk)).add off)))
    (hL : L[i]? = some (.row (.slice (some ⟨g, 0, none⟩) N c) E sk rows)) (hj : rows[j]? = some r) (hy : ev F y = v) (h1 : v.oneCell' = true) (hoff : Nat.ble (off + 1) sk = true)
    (k : Ops P e n ops rest F H (L.set i (.row (.slice (some ⟨g, 0, none⟩) N c) E sk (rows.set j (r.set off v)))) Q) : Ops P e n ops (⟨none, .store T x y, ty, pos, af, none⟩ :: rest) F H L Q :=
  o_opt0 (opt_sto i hx hL hj hy h1 hoff) fun _ _ _ ⟨h2, h3⟩ => by subst h2; subst h3; exact k
theorem c_sto {T E : TypeId} [hT : One P T] {x y : Operand} {v : Value} {g N c off j sk : Nat} {rows : List (List Value)} {r : List Value} (i : Nat) (hx : ev F x = .pointer (some (((⟨g, 0, none⟩ : Addr).add (j * sk)).add off)))
    (hL : L[i]? = some (.row (.slice (some ⟨g, 0, none⟩) N c) E sk rows)) (hj : rows[j]? = some r) (hy : ev F y = v) (h1 : v.oneCell' = true) (hoff : Nat.ble (off + 1) sk = true)
    (k : TCh P e l Q tr F H (L.set i (.row (.slice (some ⟨g, 0, none⟩) N c) E sk (rows.set j (r.set off v))))) : TS P e l Q tr true ⟨none, .store T x y, ty, pos, af, none⟩ F H L :=
  c_opt0 (opt_sto i hx hL hj hy h1 hoff) fun _ _ _ ⟨h2, h3⟩ => by subst h2; subst h3; exact ⟨(fun h => by cases h), k⟩
inductive EvB (F : Slots) : Nat → List (Nat × Operand) → List (List Value) → Prop where
  | nil {i : Nat} : EvB F i [] []
  | one {i : Nat} {x : Operand} {v : Value} {ps : List (Nat × Operand)} {rows : List (List Value)} (h : ev F x = v) (h1 : v.oneCell' = true) (r : EvB F (i + 1) ps rows) : EvB F i ((i, x) :: ps) ([v] :: rows)
  | agg {i : Nat} {x : Operand} {us : List Value} {ps : List (Nat × Operand)} {rows : List (List Value)} (h : ev F x = .agg us.toArray) (r : EvB F (i + 1) ps rows) : EvB F i ((i, x) :: ps) (us :: rows)
theorem EvB.spec {F : Slots} : ∀ {i : Nat} {ps : List (Nat × Operand)} {rows : List (List Value)}, EvB F i ps rows → ∃ xs : List Operand, ps = enumL i xs ∧ (xs.map (ev F)).map Value.cells = rows.map List.toArray
  | _, _, _, .nil => ⟨[], rfl, rfl⟩
  | _, _, _, .one (x := x) (v := v) h h1 r => by
    obtain ⟨xs, h2, h3⟩ := r.spec
    refine ⟨x :: xs, by rw [h2]; rfl, ?_⟩
    have hv : v.cells = #[v] := by cases v <;> first | rfl | (simp [Value.oneCell'] at h1)
    simp only [List.map_cons, h, hv, h3]
  | _, _, _, .agg (x := x) (us := us) h r => by
    obtain ⟨xs, h2, h3⟩ := r.spec
    refine ⟨x :: xs, by rw [h2]; rfl, ?_⟩
    simp only [List.map_cons, h, h3, Value.cells]
theorem s_bs {T E : TypeId} {sk bt N : Nat} [SlT P T E sk bt] {parts : List (Nat × Operand)} {rows : List (List Value)} (hd : Nat.ble (d + 1) n = true) (hx : EvB F 0 parts rows) (hk : rows.all (fun r => Nat.beq r.length sk) = true)
    (hm : rows.length = N) (hsm : Nat.ble (N * sk) 16777216 = true) (k : ∀ b : Nat, Ops P e n ops rest (upd F d (.slice (some ⟨b, 0, none⟩) N N)) H (.row (.slice (some ⟨b, 0, none⟩) N N) E sk rows :: L) Q) : Ops P e n ops (⟨some d, .buildSlice T N parts.toArray, ty, pos, af, none⟩ :: rest) F H L Q := by
  obtain ⟨xs, rfl, h2⟩ := hx.spec
  exact s_build xs hd rfl _ rows rfl h2 hk hm hsm k
theorem c_bs {T E : TypeId} {sk bt N : Nat} [SlT P T E sk bt] {parts : List (Nat × Operand)} {rows : List (List Value)} (hx : EvB F 0 parts rows) (hk : rows.all (fun r => Nat.beq r.length sk) = true)
    (hm : rows.length = N) (hsm : Nat.ble (N * sk) 16777216 = true) (k : ∀ b : Nat, TCh P e l Q tr (upd F d (.slice (some ⟨b, 0, none⟩) N N)) H (.row (.slice (some ⟨b, 0, none⟩) N N) E sk rows :: L)) : TS P e l Q tr m ⟨some d, .buildSlice T N parts.toArray, ty, pos, af, none⟩ F H L := by
  obtain ⟨xs, rfl, h2⟩ := hx.spec
  exact c_build xs rfl _ rows rfl h2 hk hm hsm k
theorem o_callL {f : FuncId} {xs : List Operand} {ts : Array TypeId} {args : List Value} {I Lr : List Piece} {R : Value → Hp → List Piece → Prop} (hc : Fn P f args.toArray H I R) (hd : Nat.ble (d + 1) n = true) (ha : xs.map (ev F) = args) (hL : L.Perm (I ++ Lr))
    (k : ∀ v H' O, Hp.le H H' → R v H' O → Ops P e n ops rest (upd F d v) H' (O ++ Lr) Q) : Ops P e n ops (⟨some d, .call { callee := .value (.func f), args := xs.toArray, argTypes := ts }, ty, pos, af, none⟩ :: rest) F H L Q :=
  o_call (g := .func f) (first := #[]) (cap := #[]) hc hd rfl (by simp [← ha]) hL k
theorem o_callBL {f : FuncId} {xs : List Operand} {ts : Array TypeId} {args : List Value} {R : Value → List Piece → Prop} (hc : ∀ w, Sees e H L w → Fn P f args.toArray (hp w) [] (fun v _ O => R v O)) (hd : Nat.ble (d + 1) n = true) (ha : xs.map (ev F) = args)
    (k : ∀ v O, R v O → Ops P e n ops rest (upd F d v) H (O ++ L) Q) : Ops P e n ops (⟨some d, .call { callee := .value (.func f), args := xs.toArray, argTypes := ts }, ty, pos, af, none⟩ :: rest) F H L Q :=
  o_callB (g := .func f) (first := #[]) (cap := #[]) hc hd rfl (by simp [← ha]) k
theorem map_take_succ {α β : Type} (f : α → β) {l : List α} {i : Nat} (h : i < l.length) : (l.take i).map f ++ [f l[i]] = (l.take (i + 1)).map f := by
  rw [List.take_succ_eq_append_getElem h, List.map_append]; rfl
end more
end Go.Proofs.Ytpifafhcjloncaa
