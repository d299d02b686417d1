/- What is proved: a region that draws its order may be walked in one order, if its operations read what they hang on. Conditions: none. -/
import Derived.Test.YtlghgdgpbnlpmaaGreatForms
namespace Go.Proofs.YtlghgdgpbnlpmaaGreat
open Go.RowKit

/-! whatever order the schedule takes, each operation comes behind those on which it hangs, and each comes once -/
theorem countP_lt {α : Type} {p q : α → Bool} : ∀ {l : List α}, (∀ x ∈ l, q x = true → p x = true) → (∃ x ∈ l, p x = true ∧ q x = false) → l.countP q < l.countP p
  | [], _, ⟨x, hx, _⟩ => by simp at hx
  | y :: l, h, ⟨x, hx, hp, hq⟩ => by
    have hle : l.countP q ≤ l.countP p := by
      clear hx hp hq
      induction l with
      | nil => simp
      | cons z l ih =>
        have ih' := ih (fun x hx => h x (by simp only [List.mem_cons] at hx ⊢; rcases hx with rfl | hx <;> simp_all))
        have hz := h z (by simp)
        simp only [List.countP_cons]
        cases hqz : q z <;> cases hpz : p z <;> simp_all <;> omega
    simp only [List.countP_cons]
    rcases List.mem_cons.1 hx with rfl | hx
    · simp only [hp, hq, if_true]
      simp
      omega
    · have := countP_lt (fun x hx => h x (List.mem_cons_of_mem _ hx)) ⟨x, hx, hp, hq⟩
      have hy := h y (List.mem_cons_self ..)
      cases hqy : q y <;> cases hpy : p y <;> simp_all <;> omega

def readyL (m : Region.Mode) (ops : Array Oper) (listed : Array Bool) (i : Nat) : Bool := !listed.getD i true && ((ops[i]?).map (·.after.all fun e => !Region.binds m e || listed.getD e.on false)).getD false
theorem go_succ (m : Region.Mode) (ops : Array Oper) (fuel t : Nat) (listed : Array Bool) (acc : List Nat) : Region.linearise.go m ops (fuel + 1) t listed acc =
    match ((List.range ops.size).filter (readyL m ops listed))[t % ((List.range ops.size).filter (readyL m ops listed)).length]? with
    | some i => Region.linearise.go m ops fuel (t / ((List.range ops.size).filter (readyL m ops listed)).length) (listed.setIfInBounds i true) (i :: acc)
    | none => acc.reverse := rfl
theorem go_acc (m : Region.Mode) (ops : Array Oper) : ∀ (fuel t : Nat) (listed : Array Bool) (acc : List Nat), Region.linearise.go m ops fuel t listed acc = acc.reverse ++ Region.linearise.go m ops fuel t listed []
  | 0, t, listed, acc => by simp [Region.linearise.go]
  | fuel + 1, t, listed, acc => by
    rw [go_succ, go_succ]
    split
    · rw [go_acc m ops fuel _ _ (_ :: acc), go_acc m ops fuel _ _ [_]]
      simp
    · simp

section order
variable {P : Program} {ops : Array Oper} {Q : Exit → Act → World → Prop} (J : Array Bool → Act → World → Prop)
theorem any_binds {m : Region.Mode} {e : Edge} (h : Region.binds .any e = true) : Region.binds m e = true := by
  unfold Region.binds at h ⊢
  split at h <;> first | rfl | (cases h)
theorem go_run (m : Region.Mode) (rk : Nat → Nat) (hacy : ∀ i o, ops[i]? = some o → ∀ e ∈ o.after, Region.binds m e = true → e.on < ops.size ∧ rk e.on < rk i)
    (hstep : ∀ listed a w i o, listed.size = ops.size → J listed a w → ops[i]? = some o → listed[i]? = some false → (∀ e ∈ o.after, Region.binds .any e = true → listed.getD e.on false = true) →
      if Region.wanted o (yielded ops a.tmps) then ∀ K : Act → World → Prop, (∀ a w, J (listed.setIfInBounds i true) a w → K a w) → o.wp P a w K Q else J (listed.setIfInBounds i true) (a.put o.dst undef) w)
    (hend : ∀ listed a w, (∀ i, i < ops.size → listed[i]? = some true) → J listed a w → Q .normal a w) :
    ∀ (fuel t : Nat) (listed : Array Bool) (a : Act) (w : World), listed.size = ops.size → (List.range ops.size).countP (fun i => !listed.getD i true) ≤ fuel → J listed a w → wpOps P ops Q (Region.linearise.go m ops fuel t listed []) a w := by
  have hall : ∀ (listed : Array Bool), listed.size = ops.size → (∀ i, i < ops.size → listed.getD i true = true) → ∀ i, i < ops.size → listed[i]? = some true := by
    intro listed hs h i hi
    have := h i hi
    rw [Array.getD_eq_getD_getElem?, Array.getElem?_eq_getElem (by omega)] at this
    rw [Array.getElem?_eq_getElem (by omega)]
    exact congrArg some this
  have hmin : ∀ (listed : Array Bool), listed.size = ops.size → (List.range ops.size).filter (readyL m ops listed) = [] → ∀ i, i < ops.size → listed.getD i true = true := by
    intro listed hs hrs
    suffices h : ∀ n i, rk i = n → i < ops.size → listed.getD i true = true from fun i => h _ i rfl
    intro n
    induction n using Nat.strongRecOn with
    | _ n ih =>
      intro i hn hi
      cases hl : listed.getD i true with
      | true => rfl
      | false =>
        exfalso
        have hm : i ∈ (List.range ops.size).filter (readyL m ops listed) := by
          rw [List.mem_filter]
          refine ⟨List.mem_range.2 hi, ?_⟩
          simp only [readyL, hl, Bool.not_false, Bool.true_and, Array.getElem?_eq_getElem hi, Option.map_some, Option.getD_some, Array.all_eq_true_iff_forall_mem]
          intro e he
          cases hb : Region.binds m e with
          | false => rfl
          | true =>
            have hlt := hacy i _ (Array.getElem?_eq_getElem hi) e he hb
            have := ih (rk e.on) (by omega) e.on rfl hlt.1
            rw [Array.getD_eq_getD_getElem?, Array.getElem?_eq_getElem (by omega)] at this ⊢
            simpa using this
        rw [hrs] at hm
        cases hm
  intro fuel
  induction fuel with
  | zero =>
    intro t listed a w hs hc hJ
    simp only [Region.linearise.go, List.reverse_nil, wpOps]
    refine hend listed a w (hall listed hs fun i hi => ?_) hJ
    cases hl : listed.getD i true with
    | true => rfl
    | false =>
      exfalso
      have : 0 < (List.range ops.size).countP (fun i => !listed.getD i true) := List.countP_pos_iff.2 ⟨i, List.mem_range.2 hi, by simp only [hl, Bool.not_false]⟩
      omega
  | succ fuel ih =>
    intro t listed a w hs hc hJ
    rw [go_succ]
    split
    · rename_i i hi
      have hm := List.mem_of_getElem? hi
      rw [List.mem_filter] at hm
      obtain ⟨hr, hready⟩ := hm
      have hlt := List.mem_range.1 hr
      simp only [readyL, Array.getElem?_eq_getElem hlt, Option.map_some, Option.getD_some, Bool.and_eq_true, Bool.not_eq_true', Array.all_eq_true_iff_forall_mem, Bool.or_eq_true] at hready
      obtain ⟨hun, haft⟩ := hready
      have hunl : listed[i]? = some false := by
        rw [Array.getD_eq_getD_getElem?, Array.getElem?_eq_getElem (by omega)] at hun
        rw [Array.getElem?_eq_getElem (by omega)]
        exact congrArg some hun
      have hst := hstep listed a w i _ hs hJ (Array.getElem?_eq_getElem hlt) hunl (fun e he hb => by
        rcases haft e he with h1 | h1
        · rw [any_binds hb] at h1; cases h1
        · exact h1)
      have hcount : (List.range ops.size).countP (fun j => !(listed.setIfInBounds i true).getD j true) ≤ fuel := by
        have : (List.range ops.size).countP (fun j => !(listed.setIfInBounds i true).getD j true) < (List.range ops.size).countP (fun j => !listed.getD j true) := by
          refine countP_lt (fun x _ hx => ?_) ⟨i, hr, by simp only [hun, Bool.not_false], ?_⟩
          · simp only [Array.getD_eq_getD_getElem?, Array.getElem?_setIfInBounds] at hx ⊢
            split at hx
            · rename_i e
              rw [if_pos (by omega)] at hx
              simp at hx
            · exact hx
          · simp only [Array.getD_eq_getD_getElem?, Array.getElem?_setIfInBounds, if_pos]
            rw [if_pos (by omega)]
            rfl
        omega
      rw [go_acc]
      simp only [List.reverse_cons, List.reverse_nil, List.nil_append, List.cons_append, wpOps, Array.getElem?_eq_getElem hlt]
      split
      · rename_i hw
        rw [if_pos hw] at hst
        exact .inl (hst _ fun a' w' hJ' => ih _ _ a' w' (by simpa using hs) hcount hJ')
      · rename_i hw
        rw [if_neg hw] at hst
        exact ih _ _ _ _ (by simpa using hs) hcount hst
    · rename_i hnone
      have hrs : (List.range ops.size).filter (readyL m ops listed) = [] := by
        rw [List.getElem?_eq_none_iff] at hnone
        rcases Nat.eq_zero_or_pos ((List.range ops.size).filter (readyL m ops listed)).length with h0 | h0
        · exact List.eq_nil_of_length_eq_zero h0
        · have := Nat.mod_lt t h0
          omega
      simp only [List.reverse_nil, wpOps]
      exact hend listed a w (hall listed hs (hmin listed hs hrs)) hJ
end order

/-! what an operation hangs on, through others too: a mask for each operation -/
def maskOf (acc : List Nat) (es : List Edge) (m : Nat) : Nat :=
  match es with
  | [] => m
  | e :: r => maskOf acc r (bif Region.binds .any e then (m ||| (1 <<< e.on)) ||| acc.getD e.on 0 else m)
def closAux : List Oper → List Nat → List Nat
  | [], acc => acc
  | o :: r, acc => closAux r (acc ++ [maskOf acc o.after.toList 0])
def hangs (ms : List Nat) (i j : Nat) : Bool := (ms.getD i 0).testBit j

theorem mask_mem (acc : List Nat) (j : Nat) : ∀ (es : List Edge) (m : Nat), (maskOf acc es m).testBit j = true → m.testBit j = true ∨ ∃ e ∈ es, Region.binds .any e = true ∧ (e.on = j ∨ (acc.getD e.on 0).testBit j = true)
  | [], m, h => .inl h
  | e :: r, m, h => by
    rw [maskOf] at h
    rcases mask_mem acc j r _ h with h1 | ⟨e', he', h2⟩
    · cases hb : Region.binds .any e with
      | false => rw [hb] at h1; exact .inl h1
      | true =>
        rw [hb, cond_true, Nat.testBit_or, Nat.testBit_or, Bool.or_eq_true, Bool.or_eq_true] at h1
        rcases h1 with (h1 | h1) | h1
        · exact .inl h1
        · refine .inr ⟨e, List.mem_cons_self .., hb, .inl ?_⟩
          rw [Nat.one_shiftLeft, Nat.testBit_two_pow] at h1
          simpa using h1
        · exact .inr ⟨e, List.mem_cons_self .., hb, .inr h1⟩
    · exact .inr ⟨e', List.mem_cons_of_mem _ he', h2⟩
theorem closAux_pre : ∀ (l : List Oper) (acc : List Nat), ∃ r, closAux l acc = acc ++ r ∧ r.length = l.length
  | [], acc => ⟨[], by simp [closAux], rfl⟩
  | o :: l, acc => by
    obtain ⟨r, h1, h2⟩ := closAux_pre l (acc ++ [maskOf acc o.after.toList 0])
    exact ⟨maskOf acc o.after.toList 0 :: r, by rw [closAux, h1]; simp, by simp [h2]⟩
theorem closAux_at : ∀ (l : List Oper) (acc : List Nat) (i : Nat) (o : Oper), l[i]? = some o → (closAux l acc)[acc.length + i]? = some (maskOf ((closAux l acc).take (acc.length + i)) o.after.toList 0)
  | [], _, _, _, h => by simp at h
  | o' :: l, acc, 0, o, h => by
    simp only [List.getElem?_cons_zero, Option.some.injEq] at h
    subst h
    obtain ⟨r, h1, h2⟩ := closAux_pre l (acc ++ [maskOf acc o'.after.toList 0])
    rw [closAux, h1]
    simp
  | o' :: l, acc, i + 1, o, h => by
    simp only [List.getElem?_cons_succ] at h
    have := closAux_at l (acc ++ [maskOf acc o'.after.toList 0]) i o h
    rw [closAux]
    simp only [List.length_append, List.length_cons, List.length_nil, Nat.zero_add] at this
    have e : acc.length + 1 + i = acc.length + (i + 1) := by omega
    rw [e] at this
    exact this
/-- what an operation hangs on is done ahead of it -/
theorem hangs_done {l : List Oper} {D : Nat → Prop} (hcl : ∀ i o, l[i]? = some o → D i → ∀ e ∈ o.after, Region.binds .any e = true → D e.on) :
    ∀ (i : Nat) (o : Oper), l[i]? = some o → (∀ e ∈ o.after, Region.binds .any e = true → D e.on) → ∀ j, hangs (closAux l []) i j = true → D j := by
  intro i
  induction i using Nat.strongRecOn with
  | _ i ih =>
    intro o ho hed j hj
    have hat := closAux_at l [] i o ho
    simp only [List.length_nil, Nat.zero_add] at hat
    unfold hangs at hj
    rw [List.getD_eq_getElem?_getD, hat, Option.getD_some] at hj
    rcases mask_mem _ j _ _ hj with h1 | ⟨e, he, hb, h2⟩
    · simp at h1
    · have hem : e ∈ o.after := by simpa using he
      have hD := hed e hem hb
      rcases h2 with rfl | h2
      · exact hD
      · rw [List.getD_eq_getElem?_getD, List.getElem?_take] at h2
        split at h2
        · rename_i hlt
          cases ho' : l[e.on]? with
          | none =>
            exfalso
            have hil : i < l.length := (List.getElem?_eq_some_iff.1 ho).1
            rw [List.getElem?_eq_none_iff] at ho'
            omega
          | some o' =>
            refine ih e.on hlt o' ho' (hcl e.on o' ho' hD) j ?_
            unfold hangs
            rw [List.getD_eq_getElem?_getD]
            exact h2
        · simp at h2

end Go.Proofs.YtlghgdgpbnlpmaaGreat
