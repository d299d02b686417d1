/- What is proved: a region that draws its order, in which nothing owned is changed, may be walked in the order in which it is written. Conditions: none. -/
import Derived.Test.YtlghgdgpbnlpmaaGreatAc
namespace Go.Proofs.YtlghgdgpbnlpmaaGreat
open Go.RowKit
set_option linter.unusedVariables false
set_option linter.unusedSimpArgs false
section val
variable {P : Program} {s : AS} {ty : Nat → TyI}
theorem VWr.val {kk : IntKind} {z : Int} {k : AV → Prop} (h : VWr kk z k) : ∃ v, k v ∧ VWr kk z (fun v' => v' = v) := by
  obtain ⟨r, h1, h2⟩ := h.ex; exact ⟨_, h2, ⟨r, h1, rfl⟩⟩
theorem VS.val {b : Bool} {k : AV → Prop} (h : VS b k) : ∃ v, k v ∧ VS b (fun v' => v' = v) := ⟨_, h.run b rfl, ⟨fun t ht => by rw [ht]⟩⟩
theorem kx_val {v : AV} {k : AV → Prop} (h : kx v k) : ∃ v1, k v1 ∧ kx v (fun v' => v' = v1) := by
  unfold kx at h ⊢
  split at h
  · exact h.val
  · exact ⟨v, h, rfl⟩
theorem VIx.val {i : Int} {rows : List (List AV)} {kk : Nat} {k : AV → Prop} (h : VIx i rows kk k) : ∃ v, k v ∧ VIx i rows kk (fun v' => v' = v) := by
  obtain ⟨j, cs, h1, h2, h3, h4⟩ := h.ex; exact ⟨_, h4, ⟨j, cs, h1, h2, h3, rfl⟩⟩
theorem VAt.val {i : Int} {N : Nat} {f : Nat → AV} {k : AV → Prop} (h : VAt i N fun j => k (f j)) : ∃ v, k v ∧ VAt i N (fun j => f j = v) := by
  obtain ⟨j, h1, h2, h3⟩ := h.ex; exact ⟨_, h3, ⟨j, h1, h2, rfl⟩⟩
theorem VSl.val {lo hi : Option Int} {n kk : Nat} {rows : List (List AV)} {k : AV → Prop} (h : VSl lo hi n kk rows k) : ∃ v, k v ∧ VSl lo hi n kk rows (fun v' => v' = v) := by
  obtain ⟨l, h', n', rows', h1, h2, h3, h4, h5, h6, h7, h8⟩ := h.ex; exact ⟨_, h8, ⟨l, h', n', rows', h1, h2, h3, h4, h5, h6, h7, rfl⟩⟩
theorem VCf.val {f : FuncId} {args : List AV} {k : AV → Prop} (h : VCf P f args k) : ∃ v, k v ∧ VCf P f args (fun v' => v' = v) := by
  obtain ⟨r, u, h1, h2, h3⟩ := h.ex
  obtain ⟨v, h4, h5⟩ := kx_val h3
  exact ⟨v, h4, ⟨r, u, h1, h2, h5⟩⟩
theorem VSv.val {lo hi : Option Int} {n c : Nat} {f : Nat → Nat → AV} {k : AV → Prop} (h : VSv lo hi n c fun l h => k (f l h)) : ∃ v, k v ∧ VSv lo hi n c (fun l h => f l h = v) := by
  obtain ⟨l, h', h1, h2, h3, h4, h5⟩ := h.ex; exact ⟨_, h5, ⟨l, h', h1, h2, h3, h4, rfl⟩⟩
theorem VS3.val {lo hi : Option Int} {n c : Nat} {m : Int} {v : AV} {k : AV → Prop} (h : VS3 lo hi n c m (k v)) : ∃ v', k v' ∧ VS3 lo hi n c m (v = v') := by
  obtain ⟨l, h', j, h1, h2, h3, h4, h5, h6, h7⟩ := h.ex; exact ⟨_, h7, ⟨l, h', j, h1, h2, h3, h4, h5, h6, rfl⟩⟩
theorem shA_val {op : BinOp} {x y : AV} {k : AV → Prop} (h : shA op x y k) : ∃ v, k v ∧ shA op x y (fun v' => v' = v) := by
  unfold shA at h
  split at h
  · rename_i k1 m k2 sh
    cases hb : Nat.ble sh k1.bits with
    | true => rw [hb] at h; exact ⟨_, h, by simp only [shA, hb]⟩
    | false => rw [hb] at h; cases h
  · rename_i k1 m k2 n
    cases hb : kEq k1 k2 with
    | true =>
      rw [hb] at h
      have h : VRm n (k (.int k1 (m.tmod n))) := h
      refine ⟨_, h.k, ?_⟩
      show (match kEq k1 k2 with | true => VRm n (AV.int k1 (m.tmod n) = AV.int k1 (m.tmod n)) | false => False)
      rw [hb]
      exact ⟨h.ne, rfl⟩
    | false => rw [hb] at h; cases h
  · cases h
theorem hq_val {k : AV → Prop} {op : Op} (h : hq P ty s k op) : ∃ v, k v ∧ hq P ty s (fun v' => v' = v) op := by
  unfold hq at h
  split at h
  all_goals simp only [hq]
  all_goals (repeat' (split at h))
  all_goals first
    | exact h.elim
    | (refine ⟨_, fcL_self (k := fun us => k (.agg us)) h, ?_⟩; first | exact fcL_in (k := fun us => AV.agg us = _) rfl | (simp only [*]; exact fcL_in (k := fun us => AV.agg us = _) rfl))
    | (refine ⟨_, h, ?_⟩; simp only [*]; done)
    | (refine ⟨_, h, ?_⟩; simp [*]; done)
    | exact ⟨_, h, rfl⟩
    | (obtain ⟨v, h1, h2⟩ := VWr.val h; refine ⟨v, h1, ?_⟩; simp only [*]; done)
    | (obtain ⟨v, h1, h2⟩ := VS.val h; refine ⟨v, h1, ?_⟩; simp only [*]; done)
    | (obtain ⟨v, h1, h2⟩ := kx_val h; refine ⟨v, h1, ?_⟩; simp only [*]; done)
    | (obtain ⟨v, h1, h2⟩ := VIx.val h; refine ⟨v, h1, ?_⟩; simp only [*]; done)
    | (obtain ⟨v, h1, h2⟩ := VAt.val h; refine ⟨v, h1, ?_⟩; simp only [*]; done)
    | (obtain ⟨v, h1, h2⟩ := VSl.val h; refine ⟨v, h1, ?_⟩; simp only [*]; done)
    | exact shA_val h
    | (obtain ⟨v, h1, h2⟩ := VSv.val h; refine ⟨v, h1, ?_⟩; simp only [*]; done)
    | (obtain ⟨v, h1, h2⟩ := VS3.val h; refine ⟨v, h1, ?_⟩; simp only [*]; done)
    | (obtain ⟨v, h1, h2⟩ := VCf.val h; refine ⟨v, h1, ?_⟩; simp only [*]; done)
    | (obtain ⟨h0, h1, h2⟩ := VSn.ex h; exact ⟨_, h2, ⟨h0, h1, rfl⟩⟩)
    | (obtain ⟨cs, h1, h2⟩ := VRow.ex h
       split at h2
       · rename_i w hw
         obtain ⟨v, h3, h4⟩ := kx_val h2
         exact ⟨v, h3, ⟨cs, h1, by rw [hw]; exact h4⟩⟩
       · exact h2.elim)
    | (obtain ⟨j, h1, h2, h3⟩ := VAt.ex h
       split at h3
       · rename_i us hus
         first
           | exact ⟨_, h3, ⟨j, h1, h2, by simp only [hus]⟩⟩
           | (obtain ⟨v, h5, h6⟩ := kx_val h3
              exact ⟨v, h5, ⟨j, h1, h2, by simp only [hus]; exact h6⟩⟩)
       · exact h3.elim)
    | skip
end val
/-- an operation's guard -/
def gdA (all : List Oper) (s : AS) (o : Oper) (yes no : Prop) : Prop :=
  match o.guard with
  | none => yes
  | some (j, want) => match dstAt all j with
    | some d => (match s.F d with
      | .bool b => (match b, want with | true, true => yes | false, false => yes | true, false => no | false, true => no)
      | .undef => no
      | _ => False)
    | none => False
/-- a call whose answer is frozen and fixed, and that is handed nothing owned -/
structure VCp (P : Program) (f : FuncId) (args : List AV) (k : AV → Prop) : Prop where
  ex : ∃ r, AFnP P f args r ∧ kx r k
def callP (P : Program) (s : AS) (k : AV → Prop) : Op → Prop
  | .call { callee := .value g, args := xs, argTypes := _ } => match evA s g with
    | .fn f caps => (match canon 0 (evLA s xs.toList ++ caps) s.h with
      | [] => VCp P f (trL (fz1 []) (evLA s xs.toList ++ caps)) k
      | _ :: _ => False)
    | _ => False
  | _ => False
def valCall : Op → Bool
  | .call { callee := .value _, .. } => true
  | _ => false
def stepP (P : Program) (ty : Nat → TyI) (s : AS) (op : Op) (k : AV → Prop) : Prop :=
  match valCall op with
  | true => hq P ty s k op ∨ callP P s k op
  | false => hq P ty s k op
def updD (A : Nat → AV) (d : Option Nat) (v : AV) : Nat → AV :=
  match d with
  | some d => updA A d v
  | none => A
def maskA (l : List Oper) (o : Oper) (A : Nat → AV) : Nat → AV := fun t => bif hasN (tmpsAt l o) t then A t else .junk
def vcP (P : Program) (ty : Nat → TyI) (l : List Oper) (h : List AP) (nx : Nat) (Q : (Nat → AV) → Prop) : List Oper → (Nat → AV) → Prop
  | [], A => Q A
  | o :: r, A => gdA l ⟨A, h, nx⟩ o (stepP P ty ⟨maskA l o A, h, nx⟩ o.op fun v => fc v fun v => vcP P ty l h nx Q r (updD A o.dst v)) (vcP P ty l h nx Q r (updD A o.dst .undef))

section sound
variable {P : Program} {e : Ent} {ty : Nat → TyI}
theorem hasN_mem : ∀ {l : List Nat} {i : Nat}, hasN l i = true → i ∈ l
  | [], i, h => by simp [hasN] at h
  | j :: l, i, h => by
    rw [hasN] at h
    cases hb : Nat.beq j i with
    | true => rw [Nat.eq_of_beq_eq_true hb]; exact List.mem_cons_self ..
    | false => rw [hb, cond_false] at h; exact List.mem_cons_of_mem _ (hasN_mem h)
theorem callP_val {s : AS} {k : AV → Prop} {op : Op} (h : callP P s k op) : ∃ v, k v ∧ callP P s (fun v' => v' = v) op := by
  unfold callP at h
  split at h
  · simp only [callP]
    split at h
    · split at h
      · obtain ⟨r, h1, h2⟩ := h.ex
        obtain ⟨v, h3, h4⟩ := kx_val h2
        refine ⟨v, h3, ?_⟩
        first
          | exact ⟨r, h1, h4⟩
          | (simp only [*]; exact ⟨r, h1, h4⟩)
      · exact h.elim
    · exact h.elim
  · exact h.elim
theorem stepP_val {s : AS} {k : AV → Prop} {op : Op} (h : stepP P ty s op k) : ∃ v, k v ∧ stepP P ty s op (fun v' => v' = v) := by
  unfold stepP at h ⊢
  split at h
  · rcases h with h | h
    · obtain ⟨v, h1, h2⟩ := hq_val h
      exact ⟨v, h1, .inl h2⟩
    · obtain ⟨v, h1, h2⟩ := callP_val h
      exact ⟨v, h1, .inr h2⟩
  · obtain ⟨v, h1, h2⟩ := hq_val h
    exact ⟨v, h1, h2⟩
theorem kx_mono {v : AV} {k k' : AV → Prop} (h : kx v k) (hk : ∀ x, k x → k' x) : kx v k' := by
  unfold kx at h ⊢
  split at h
  · exact ⟨fun t ht => hk _ (h.run t ht)⟩
  · exact hk _ h
/-- such a call leaves what is owned as it was -/
theorem callP_opt {E : Env} {s : AS} {F : Slots} {L : List Piece} {k : AV → Prop} {op : Op} (h : callP P s k op) (hr : RS E s F L) :
    Opt P e op F E.H L (fun v' H' L' => ∃ E' v, E'.H = H' ∧ E.le E' ∧ L' = L ∧ RS E' s F L ∧ V E' v v' ∧ k v) := by
  unfold callP at h
  split at h
  · rename_i _ g xs ts
    have hg := hr.ev g
    split at h
    · rename_i f caps hgf
      split at h
      · rename_i hc
        rw [hgf] at hg
        simp only [V] at hg
        obtain ⟨cs, hg, hcs⟩ := hg
        have hvs := hr.evs xs.toList
        rw [← evLA_eq] at hvs
        have hvs := VL_append hvs hcs
        have hargs : #[] ++ xs.map (Go.Proofs.YtlghgdgpbnlpmaaGreat.ev F) ++ cs.toArray = (xs.toList.map (Go.Proofs.YtlghgdgpbnlpmaaGreat.ev F) ++ cs).toArray := by rw [← Array.toList_map]; simp
        obtain ⟨r, h1, h2⟩ := h.ex
        have fz : Frz E [] [] E.H := ⟨Hp.le.refl _, by simp only [VH], fun p hp => by cases hp⟩
        have hF := h1 E.H _ (VL_tr (fz1_ok fz) _ _ hvs)
        refine ⟨fun a o w K Q ho hop hs hK => ?_⟩
        refine (opt_call (e := e) (F := F) (g := g) (xs := xs) (ts := ts) (first := #[]) (cap := cs.toArray) hg hargs hF (List.Perm.refl L)).run a o w K Q ho hop hs fun v w' H' L' hs' ⟨h5, O, h6, h7⟩ => ?_
        subst h6
        refine hK v w' H' L (hs'.sub (List.sublist_append_right O L)) ?_
        have hle : E.le { E with H := H' } := ⟨h5, Nat.le_refl _, fun _ _ => rfl, fun _ _ => rfl⟩
        exact ⟨{ E with H := H' }, r, rfl, hle, rfl, hr.mono hle hr.nx, h7.mono (Env.le.of (Hp.le.refl _)), kx_self h2⟩
      · exact h.elim
    · exact h.elim
  · exact h.elim
theorem stepP_opt (ht : ∀ T, TyOk P T (ty T)) {E : Env} {s : AS} {F : Slots} {L : List Piece} {v : AV} {op : Op} (h : stepP P ty s op (fun v' => v' = v)) (hr : RS E s F L) :
    Opt P e op F E.H L (fun v' H' L' => ∃ E', E'.H = H' ∧ E.le E' ∧ RS E' s F L' ∧ V E' v v') := by
  have fromH : hq P ty s (fun v' => v' = v) op → Opt P e op F E.H L (fun v' H' L' => ∃ E', E'.H = H' ∧ E.le E' ∧ RS E' s F L' ∧ V E' v v') := fun h => by
    obtain ⟨v0, u, h1, h2, h3⟩ := hq_sound (e := e) ht h hr
    subst h1
    refine (h3 E.H L (.inr ⟨Hp.le.refl _, .inr ⟨[], rfl⟩⟩)).mono ?_
    rintro v' H' L' ⟨rfl, rfl, rfl⟩
    exact ⟨E, rfl, Env.le.refl E, hr, h2⟩
  unfold stepP at h
  split at h
  · rcases h with h | h
    · exact fromH h
    · unfold callP at h
      split at h
      · rename_i g xs ts _
        split at h
        · rename_i f caps hg
          split at h
          · rename_i hc
            obtain ⟨r, h1, h2⟩ := h.ex
            have hb : bq P ty s (fun v' s1 => v' = v ∧ s1 = s) (.call { callee := .value g, args := xs, argTypes := ts }) := by
              simp only [bq, hg, hc]
              exact .inl (VCz.of h1 (kx_mono h2 fun x hx => ⟨hx, rfl⟩))
            refine (bq_call hb hr).mono ?_
            rintro v' H' L' ⟨E', s1, w, h3, h4, h5, h6, rfl, rfl⟩
            exact ⟨E', h3, h4, h5, h6⟩
          · exact h.elim
        · exact h.elim
      · exact h.elim
  · exact fromH h
/-- does an operation run? -/
def gOn (l : List Oper) (A : Nat → AV) (o : Oper) : Option Bool :=
  match o.guard with
  | none => some true
  | some (j, want) => match dstAt l j with
    | some d => (match A d with
      | .bool b => some (b == want)
      | .undef => some false
      | _ => none)
    | none => none
theorem gdA_on {l : List Oper} {s : AS} {o : Oper} {yes no : Prop} (h : gdA l s o yes no) : (gOn l s.F o = some true ∧ yes) ∨ (gOn l s.F o = some false ∧ no) := by
  unfold gdA at h
  unfold gOn
  split at h
  · rename_i hg; (try rw [hg]); exact .inl ⟨rfl, h⟩
  · rename_i j want hg
    try rw [hg]
    split at h
    · rename_i d hd
      try simp only [hd]
      split at h
      · rename_i b hb
        try simp only [hb]
        cases b <;> cases want <;> simp only at h
        · exact .inl ⟨rfl, h⟩
        · exact .inr ⟨rfl, h⟩
        · exact .inr ⟨rfl, h⟩
        · exact .inl ⟨rfl, h⟩
      · rename_i hb
        try simp only [hb]
        exact .inr ⟨by first | rfl | trivial, h⟩
      · exact h.elim
    · exact h.elim
theorem vcP_vals {l : List Oper} {h : List AP} {nx : Nat} {Q : (Nat → AV) → Prop} : ∀ (r : List Oper) (i : Nat) (A : Nat → AV), i ≤ l.length → l.drop i = r → vcP P ty l h nx Q r A →
    ∃ (As : Nat → Nat → AV) (av : Nat → AV), As i = A ∧ (∀ j o, i ≤ j → l[j]? = some o → As (j + 1) = updD (As j) o.dst (av j) ∧ ((gOn l (As j) o = some true ∧ stepP P ty ⟨maskA l o (As j), h, nx⟩ o.op (fun v => v = av j)) ∨ (gOn l (As j) o = some false ∧ av j = .undef))) ∧ Q (As l.length)
  | [], i, A, hi, hd, hv => by
    have : l.length ≤ i := by
      have := congrArg List.length hd
      simp only [List.length_drop, List.length_nil] at this
      omega
    have hil : i = l.length := by omega
    subst hil
    exact ⟨fun _ => A, fun _ => .junk, rfl, fun j o hj ho => by have := (List.getElem?_eq_some_iff.1 ho).1; omega, hv⟩
  | o :: r, i, A, hi, hd, hv => by
    have hlt : i < l.length := by
      have := congrArg List.length hd
      simp only [List.length_drop, List.length_cons] at this
      omega
    have ho : l[i]? = some o := by
      have := congrArg (·[0]?) hd
      simpa using this
    have hd1 : l.drop (i + 1) = r := by
      have := congrArg (List.drop 1) hd
      simpa [List.drop_drop, Nat.add_comm] using this
    have go : ∀ v, vcP P ty l h nx Q r (updD A o.dst v) → ((gOn l A o = some true ∧ stepP P ty ⟨maskA l o A, h, nx⟩ o.op (fun v' => v' = v)) ∨ (gOn l A o = some false ∧ v = .undef)) → ∃ (As : Nat → Nat → AV) (av : Nat → AV), As i = A ∧ (∀ j o, i ≤ j → l[j]? = some o → As (j + 1) = updD (As j) o.dst (av j) ∧ ((gOn l (As j) o = some true ∧ stepP P ty ⟨maskA l o (As j), h, nx⟩ o.op (fun v => v = av j)) ∨ (gOn l (As j) o = some false ∧ av j = .undef))) ∧ Q (As l.length) := by
      intro v hv hg
      obtain ⟨As, av, h1, h2, h3⟩ := vcP_vals r (i + 1) _ hlt hd1 hv
      refine ⟨fun j => if j = i then A else As j, fun j => if j = i then v else av j, by simp, ?_, by show Q (if l.length = i then A else As l.length); rw [if_neg (by omega)]; exact h3⟩
      intro j o' hj ho'
      by_cases hji : j = i
      · subst hji
        rw [ho] at ho'
        cases ho'
        simp only [if_true]
        rw [if_neg (by omega), h1]
        exact ⟨rfl, hg⟩
      · obtain ⟨h4, h5⟩ := h2 j o' (by omega) ho'
        simp only [if_neg hji]
        rw [if_neg (by omega)]
        exact ⟨h4, h5⟩
    rw [vcP] at hv
    rcases gdA_on hv with ⟨h1, h2⟩ | ⟨h1, h2⟩
    · obtain ⟨v, h3, h4⟩ := stepP_val h2
      exact go v (fc_self (k := fun v => vcP P ty l h nx Q r (updD A o.dst v)) h3) (.inl ⟨h1, h4⟩)
    · exact go _ h2 (.inr ⟨h1, rfl⟩)
theorem rng_split : ∀ (i a m : Nat), rng a (i + (m + 1)) = rng a i ++ (a + i) :: rng (a + i + 1) m
  | 0, a, m => by rw [Nat.zero_add]; rfl
  | i + 1, a, m => by
    have h : rng a (i + 1 + (m + 1)) = a :: rng (a + 1) (i + (m + 1)) := by
      rw [show i + 1 + (m + 1) = (i + (m + 1)) + 1 by omega]; rfl
    rw [h, rng_split i (a + 1) m, show a + 1 + i = a + (i + 1) by omega]
    rfl
theorem mem_rngK : ∀ {n a x : Nat}, a ≤ x → x < a + n → x ∈ rng a n
  | 0, a, x, h1, h2 => by omega
  | n + 1, a, x, h1, h2 => by
    rw [rng]
    by_cases hx : x = a
    · subst hx; exact List.mem_cons_self ..
    · exact List.mem_cons_of_mem _ (mem_rngK (by omega) (by omega))
theorem t_par {l : List Oper} {n id : Nat} {E : Env} {s : AS} {F0 : Slots} {L0 : List Piece} {Q : (Nat → AV) → Prop} (ht : ∀ T, TyOk P T (ty T)) (hok : okDraw l n (rng 0 l.length) [] [] = true) (hr : RS E s F0 L0) (hv : vcP P ty l s.h s.nx Q l s.F) :
    Tri P e n (.region id l.toArray true) F0 E.H L0 (fun x F' H' L' => x = .normal ∧ ∃ E1 A, E1.H = H' ∧ E.le E1 ∧ RS E1 ⟨A, s.h, s.nx⟩ F' L' ∧ Q A ∧ ∀ t, (∀ j, dstAt l j ≠ some t) → F' t = F0 t) := by
  have ok := Ok.of hok
  obtain ⟨As, av, hA0, hAs, hQ⟩ := vcP_vals (P := P) (ty := ty) l 0 s.F (Nat.zero_le _) (by simp) hv
  have hpre : ∀ j, j ≤ l.length → ∀ t, (∃ k, k < j ∧ dstAt l k = some t ∧ As j t = av k) ∨ ((∀ k, k < j → dstAt l k ≠ some t) ∧ As j t = s.F t) := by
    intro j
    induction j with
    | zero => intro _ t; exact .inr ⟨fun k hk => by omega, by rw [hA0]⟩
    | succ j ih =>
      intro hj t
      have ho : l[j]? = some l[j] := List.getElem?_eq_getElem (by omega)
      obtain ⟨h1, -⟩ := hAs j _ (Nat.zero_le _) ho
      have hd : dstAt l j = (l[j]).dst := by simp [dstAt, ho]
      rw [h1]
      by_cases hw : dstAt l j = some t
      · refine .inl ⟨j, by omega, hw, ?_⟩
        rw [hd] at hw
        rw [hw]
        simp [updD, updA]
      · have hs : updD (As j) (l[j]).dst (av j) t = As j t := by
          rw [hd] at hw
          cases hdd : (l[j]).dst with
          | none => rfl
          | some d =>
            rw [hdd] at hw
            have : Nat.beq t d = false := by
              cases hb : Nat.beq t d with
              | false => rfl
              | true => exact absurd (by rw [Nat.eq_of_beq_eq_true hb]) hw
            simp [updD, updA, this]
        rw [hs]
        rcases ih (by omega) t with ⟨k, h2, h3, h4⟩ | ⟨h2, h3⟩
        · exact .inl ⟨k, by omega, h3, h4⟩
        · refine .inr ⟨fun k hk => ?_, h3⟩
          by_cases hkj : k = j
          · subst hkj; exact hw
          · exact h2 k (by omega)
  refine ⟨fun a w hf hs => wp_region_draw fun t => ?_⟩
  obtain ⟨m, t', rk, ht', hacy⟩ := ok.dep (P.follows .mixedOrders) t
  rw [ht']
  show wpOps P l.toArray _ (Region.linearise.go m l.toArray l.toArray.size t' (Array.replicate l.toArray.size false) []) a w.drew
  let done : Array Bool → Nat → Prop := fun listed i => listed[i]? = some true
  let J : Array Bool → Act → World → Prop := fun listed a w => ∃ E1 L1, E.le E1 ∧ E1.nx = s.nx ∧ VH E1 s.h L1 ∧ Sees e E1.H L1 w ∧
    (∀ i o, l[i]? = some o → done listed i → ∀ ed ∈ o.after, Region.binds .any ed = true → done listed ed.on) ∧ a.defers = [] ∧ a.tmps.size = n ∧
    (∀ j d, dstAt l j = some d → done listed j → V E1 (av j) (a.tmps.getD d undef)) ∧ (∀ d, (∀ j, dstAt l j = some d → ¬ done listed j) → a.tmps.getD d undef = F0 d)
  have hgetF : ∀ (listed : Array Bool) (i : Nat), listed.size = l.length → (listed.getD i false = true ↔ done listed i) := by
    intro listed i _
    rw [Array.getD_eq_getD_getElem?]
    show _ ↔ listed[i]? = some true
    cases listed[i]? with
    | none => simp
    | some b => simp
  have hset : ∀ (listed : Array Bool) (i j : Nat), listed[i]? = some false → (done (listed.setIfInBounds i true) j ↔ j = i ∨ done listed j) := by
    intro listed i j hi
    have hlt : i < listed.size := (Array.getElem?_eq_some_iff.1 hi).1
    show (listed.setIfInBounds i true)[j]? = some true ↔ _
    rw [Array.getElem?_setIfInBounds]
    by_cases e : i = j
    · subst e; simp [hlt]
    · rw [if_neg e]
      exact ⟨.inr, fun h' => h'.resolve_left (fun e' => e e'.symm)⟩
  refine go_run J m rk (by simpa using hacy) ?_ ?_ _ _ _ _ _ (by simp) (Nat.le_trans List.countP_le_length (by simp)) ?_
  · -- a step
    intro listed a w i o hsz hJ ho hun hed
    have ho' : l[i]? = some o := by simpa using ho
    have hsz' : listed.size = l.length := by simpa using hsz
    obtain ⟨E1, L1, hE, hnx, hvh, hse, hcl, hdf, hn, hdn, hud⟩ := hJ
    have hnd : ¬ done listed i := by show ¬ listed[i]? = some true; rw [hun]; simp
    have hed' : ∀ ed ∈ o.after, Region.binds .any ed = true → done listed ed.on := fun ed h1 h2 => (hgetF listed _ hsz').1 (hed ed h1 h2)
    have hh : ∀ j, hangs (closAux l []) i j = true → done listed j := hangs_done hcl i o ho' hed'
    have hhD : ∀ k, done listed k → ∀ j, hangs (closAux l []) k j = true → done listed j := by
      intro k hk j hj
      have hkl : k < l.length := by
        have := (Array.getElem?_eq_some_iff.1 (show listed[k]? = some true from hk)).1
        omega
      exact hangs_done hcl k _ (List.getElem?_eq_getElem hkl) (hcl k _ (List.getElem?_eq_getElem hkl) hk) j hj
    have hcl' : ∀ k ok', l[k]? = some ok' → done (listed.setIfInBounds i true) k → ∀ ed ∈ ok'.after, Region.binds .any ed = true → done (listed.setIfInBounds i true) ed.on := by
      intro k ok' hk hdk ed h1 h2
      rw [hset listed i _ hun]
      rw [hset listed i _ hun] at hdk
      rcases hdk with rfl | hdk
      · rw [ho'] at hk
        cases hk
        exact .inr (hed' ed h1 h2)
      · exact .inr (hcl k ok' hk hdk ed h1 h2)
    have hil : i < l.length := (List.getElem?_eq_some_iff.1 ho').1
    have hdst : dstAt l i = o.dst := by simp [dstAt, ho']
    have hat := okOrd_at _ _ ok.ord (rng 0 i) i (rng (i + 1) (l.length - i - 1)) (by
      have := rng_split i 0 (l.length - i - 1)
      rw [show i + (l.length - i - 1 + 1) = l.length by omega] at this
      simpa using this)
    simp only [okAt, ho', List.append_nil, List.all_eq_true, Bool.and_eq_true, Bool.or_eq_true, bne_iff_ne, ne_eq, List.mem_reverse] at hat
    have hop : ∀ t' ∈ tmpsAt l o, V E1 (As i t') (a.tmps.getD t' undef) := by
      intro t' ht'
      obtain ⟨hp1, hp2⟩ := hat t' ht'
      rcases hpre i (by omega) t' with ⟨k, hk, hkd, hkv⟩ | ⟨hno, hkv⟩
      · rw [hkv]
        exact hdn k t' hkd (hh k ((hp1 k (mem_rngK (by omega) (by omega))).resolve_left (fun hne => hne hkd)))
      · rw [hkv, hud t' (fun k hk hdk => by
          by_cases hki : k < i
          · exact hno k hki hk
          · by_cases hke : k = i
            · subst hke; exact hnd hdk
            · exact hnd (hhD k hdk i ((hp2 k (mem_rngK (by omega) (by have := dstAt_lt hk; omega))).resolve_left (fun hne => hne hk))))]
        exact (hr.f t').mono hE
    obtain ⟨hAi, hcase⟩ := hAs i o (Nat.zero_le _) ho'
    have hgd : ∀ b, gOn l (As i) o = some b → Region.wanted o (yielded l.toArray a.tmps) = b := by
      intro b hb
      have hw : Region.wanted o (yielded l.toArray a.tmps) = wantF l (fun t => a.tmps.getD t undef) o := wanted_eq fun j want d' hg hd' => rfl
      rw [hw]
      unfold gOn at hb
      unfold wantF
      split at hb
      · rename_i hg; rw [hg]; simpa using hb
      · rename_i j want hg
        rw [hg]
        split at hb
        · rename_i d hd
          simp only [hd]
          have hvd := hop d (guard_mem hg hd)
          split at hb
          · rename_i b0 hb0
            rw [hb0] at hvd
            rw [V_bool hvd]
            simpa using hb
          · rename_i hb0
            rw [hb0] at hvd
            simp only [V] at hvd
            rw [hvd]
            simpa [undef] using hb
          · cases hb
        · cases hb
    have hRS : RS E1 ⟨maskA l o (As i), s.h, s.nx⟩ (fun t => a.tmps.getD t undef) L1 := by
      refine ⟨fun t => ?_, hvh, hnx⟩
      simp only [maskA]
      cases hb : hasN (tmpsAt l o) t with
      | false => simp only [cond_false, V]
      | true => rw [cond_true]; exact hop t (hasN_mem hb)
    have hput : ∀ v d', (a.put o.dst v).tmps.getD d' undef = updO (fun t => a.tmps.getD t undef) o.dst v d' := by
      intro v d'
      cases hd : o.dst with
      | none => rfl
      | some d =>
        have hfr1 : Fr a (fun t => a.tmps.getD t undef) n := ⟨hdf, hn, fun _ => rfl⟩
        rw [hd] at hdst
        exact (hfr1.put (ok.dlt i d hdst) v).get d'
    have fin : ∀ (v : Value) (w' : World) (E2 : Env) (L2 : List Piece), E1.le E2 → E2.nx = s.nx → VH E2 s.h L2 → Sees e E2.H L2 w' → V E2 (av i) v → J (listed.setIfInBounds i true) (a.put o.dst v) w' := by
      intro v w' E2 L2 g1 g2 g3 g4 g5
      refine ⟨E2, L2, hE.trans g1, g2, g3, g4, hcl', ?_, ?_, ?_, ?_⟩
      · cases o.dst <;> exact hdf
      · cases hd : o.dst <;> simp [Act.put, hn]
      · intro j d' hj hdj
        rw [hput]
        rcases (hset listed i _ hun).1 hdj with rfl | h1
        · rw [hdst] at hj
          rw [hj]
          simp only [updO, upd_same]
          exact g5
        · have hne : ∀ d, o.dst = some d → d' ≠ d := fun d hd he => by
            subst he
            rw [hd] at hdst
            have := ok.dis j i d' hj hdst
            subst this
            exact hnd h1
          cases hd : o.dst with
          | none => exact (hdn j d' hj h1).mono g1
          | some d =>
            simp only [updO]
            rw [upd_other (fun t => a.tmps.getD t undef) v (hne d hd)]
            exact (hdn j d' hj h1).mono g1
      · intro d' hno
        rw [hput]
        have hne : ∀ d, o.dst = some d → d' ≠ d := fun d hd he => by
          subst he
          rw [hd] at hdst
          exact hno i hdst ((hset listed i _ hun).2 (.inl rfl))
        rw [← hud d' (fun j hj hdj => hno j hj ((hset listed i _ hun).2 (.inr hdj)))]
        cases hd : o.dst with
        | none => rfl
        | some d => exact upd_other (fun t => a.tmps.getD t undef) v (hne d hd)
    rcases hcase with ⟨hw, hst⟩ | ⟨hw, hvv⟩
    · rw [if_pos (by rw [hgd _ hw])]
      intro K hK
      refine (stepP_opt (e := e) ht hst hRS).run a o w K _ rfl (fun x hx => ?_) hse (fun v w' H' L' hs' ⟨E2, e1, e2, e3, e4⟩ => hK _ _ (fin v w' E2 L' e2 e3.nx e3.h (by rw [e1]; exact hs') e4))
      cases x with
      | tmp t => rfl
      | const v => rfl
      | global g => rfl
      | func f => rfl
    · rw [if_neg (by rw [hgd _ hw]; simp)]
      exact fin undef w E1 L1 (Env.le.refl _) hnx hvh hse (by rw [hvv]; simp only [V])
  · -- the end
    intro listed a w hall hJ
    obtain ⟨E1, L1, hE, hnx, hvh, hse, hcl, hdf, hn, hdn, hud⟩ := hJ
    refine ⟨fun t => a.tmps.getD t undef, E1.H, L1, ⟨hdf, hn, fun _ => rfl⟩, hse, rfl, E1, As l.length, rfl, hE, ⟨fun t => ?_, hvh, hnx⟩, hQ, fun t hno => hud t (fun j hj => absurd hj (hno j))⟩
    rcases hpre l.length (Nat.le_refl _) t with ⟨k, hk, hkd, hkv⟩ | ⟨hno, hkv⟩
    · show V E1 (As l.length t) _
      rw [hkv]
      exact hdn k t hkd (hall k (by simpa using hk))
    · show V E1 (As l.length t) _
      rw [hkv, hud t (fun j hj _ => hno j (dstAt_lt hj) hj)]
      exact (hr.f t).mono hE
  · -- the start
    have hnone : ∀ i, ¬ done (Array.replicate l.toArray.size false) i := by
      intro i hi
      have : (Array.replicate l.toArray.size false)[i]? = some true := hi
      rw [Array.getElem?_replicate] at this
      split at this <;> simp at this
    exact ⟨E, L0, Env.le.refl E, hr.nx, hr.h, hs.drew, fun i o _ hd => absurd hd (hnone i), hf.defers, hf.size, fun j d _ hd => absurd hd (hnone j), fun d _ => hf.get d⟩
end sound
end Go.Proofs.YtlghgdgpbnlpmaaGreat
