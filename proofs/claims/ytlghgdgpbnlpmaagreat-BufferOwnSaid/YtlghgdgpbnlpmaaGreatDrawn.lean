/- What is proved: a region that draws its order may be walked in one order: first what answers one value whenever it comes, then the chain of what changes memory. Conditions: none. -/
import Derived.Test.YtlghgdgpbnlpmaaGreatDraw
namespace Go.Proofs.YtlghgdgpbnlpmaaGreat
open Go.RowKit

def dstAt (l : List Oper) (i : Nat) : Option Nat := (l[i]?).bind (·.dst)
def updO (F : Slots) (d : Option Nat) (v : Value) : Slots :=
  match d with
  | some d => upd F d v
  | none => F
def pureOp : Op → Bool
  | .move _ | .assign _ | .pick .. | .binOp .. | .unOp .. | .fieldAddr .. | .indexAddr .. | .extract .. | .build .. | .field .. | .index .. | .slice .. | .makeFunc .. | .nilCheck _ | .convert .. => true
  | .call { callee := .builtin .len, .. } | .call { callee := .builtin .max, .. } | .call { callee := .builtin .min, .. } => true
  | _ => false
def wantF (l : List Oper) (F : Slots) (o : Oper) : Bool :=
  match o.guard with
  | none => true
  | some (j, want) =>
    match dstAt l j with
    | some d => (match F d with | .bool b => b == want | _ => false)
    | none => false
def tmpsAt (l : List Oper) (o : Oper) : List Nat :=
  (o.op.operands.toList.filterMap fun | .tmp t => some t | _ => none) ++ (match o.guard with | some (j, _) => (dstAt l j).toList | none => [])
def okAt (l : List Oper) (ms pre : List Nat) (i : Nat) (post : List Nat) : Bool :=
  match l[i]? with
  | none => false
  | some o => (tmpsAt l o).all fun t => (pre.all fun j => dstAt l j != some t || hangs ms i j) && (post.all fun j => dstAt l j != some t || hangs ms j i)
def okOrd (l : List Oper) (ms : List Nat) : List Nat → List Nat → Bool
  | _, [] => true
  | pre, i :: post => okAt l ms pre i post && okOrd l ms (i :: pre) post
def okChain (ms : List Nat) : List Nat → Bool
  | i :: j :: r => hangs ms j i && okChain ms (j :: r)
  | _ => true
def acyc (l : List Oper) : Bool := (List.range l.length).all fun i => match l[i]? with | some o => o.after.toList.all fun e => !Region.binds .any e || decide (e.on < i) | none => true
def acycAll (l : List Oper) : Bool := (List.range l.length).all fun i => match l[i]? with | some o => o.after.toList.all fun e => decide (e.on < i) | none => true
def acycB (m : Region.Mode) (r : List Nat) (l : List Oper) : Bool := (List.range l.length).all fun i => match l[i]? with | some o => o.after.toList.all fun e => !Region.binds m e || (decide (e.on < l.length) && decide (r.idxOf e.on < r.idxOf i)) | none => true
/-- a region whose two orders differ: each of them is one -/
def acycD (l : List Oper) : Bool := acycB .text (List.range l.length) l && acycB .gc (Region.linearise .gc l.toArray 0) l
def Dep (l : List Oper) : Prop := ∀ (mixed : Bool) (t : Nat), ∃ (m : Region.Mode) (t' : Nat) (rk : Nat → Nat), Region.schedule mixed l.toArray t = Region.linearise m l.toArray t' ∧ ∀ (i : Nat) (o : Oper), l[i]? = some o → ∀ e ∈ o.after, Region.binds m e = true → e.on < l.length ∧ rk e.on < rk i
theorem acycB_of {m : Region.Mode} {r : List Nat} {l : List Oper} (h : acycB m r l = true) (i : Nat) (o : Oper) (ho : l[i]? = some o) : ∀ e ∈ o.after, Region.binds m e = true → e.on < l.length ∧ r.idxOf e.on < r.idxOf i := by
  intro ed he hb
  simp only [acycB, List.all_eq_true, List.mem_range] at h
  have := h i (List.getElem?_eq_some_iff.1 ho).1
  rw [ho] at this
  simp only [List.all_eq_true, Bool.or_eq_true, Bool.not_eq_true', Bool.and_eq_true, decide_eq_true_eq] at this
  rcases this ed (by simpa using he) with h' | h'
  · rw [hb] at h'; cases h'
  · exact h'
theorem dep_of {l : List Oper} (h1 : acyc l = true) (h : (!Region.departs l.toArray || acycAll l || acycD l) = true) : Dep l := by
  have acy : ∀ (i : Nat) (o : Oper), l[i]? = some o → ∀ e ∈ o.after, Region.binds .any e = true → e.on < l.length ∧ id e.on < id i := by
    intro i o ho ed he hb
    simp only [acyc, List.all_eq_true, List.mem_range] at h1
    have hi := (List.getElem?_eq_some_iff.1 ho).1
    have := h1 i hi
    rw [ho] at this
    simp only [List.all_eq_true, Bool.or_eq_true, Bool.not_eq_true', decide_eq_true_eq] at this
    rcases this ed (by simpa using he) with h' | h'
    · rw [hb] at h'; cases h'
    · exact ⟨by omega, h'⟩
  intro mixed t
  rw [Bool.or_eq_true, Bool.or_eq_true, Bool.not_eq_true'] at h
  rcases h with (hd | h) | h
  · exact ⟨.any, t, id, by simp [Region.schedule, hd], acy⟩
  · have acyA : ∀ (i : Nat) (o : Oper), l[i]? = some o → ∀ e ∈ o.after, e.on < l.length ∧ id e.on < id i := by
      intro i o ho ed he
      simp only [acycAll, List.all_eq_true, List.mem_range] at h
      have hi := (List.getElem?_eq_some_iff.1 ho).1
      have := h i hi
      rw [ho] at this
      simp only [List.all_eq_true, decide_eq_true_eq] at this
      have := this ed (by simpa using he)
      exact ⟨by omega, this⟩
    unfold Region.schedule
    split
    · exact ⟨.any, t, id, rfl, acy⟩
    · exact ⟨_, _, id, rfl, fun i o ho e he _ => acyA i o ho e he⟩
  · obtain ⟨ht, hg⟩ := Bool.and_eq_true_iff.1 h
    unfold Region.schedule
    split
    · exact ⟨.any, t, id, rfl, acy⟩
    · split
      · exact ⟨.text, _, fun i => (List.range l.length).idxOf i, rfl, acycB_of ht⟩
      · exact ⟨.gc, _, fun i => (Region.linearise .gc l.toArray 0).idxOf i, rfl, acycB_of hg⟩
def okDraw (l : List Oper) (n : Nat) (fr : List Nat) (ts : List (Nat × Bool)) (zs : List Nat) : Bool :=
  let ms := closAux l []
  let ord := fr ++ ts.map (·.1)
  acyc l && (!Region.departs l.toArray || acycAll l || acycD l) && okOrd l ms [] ord && okChain ms (ts.map (·.1)) && decide ord.Nodup && (List.range l.length).all (fun i => ord.elem i) && ord.all (fun i => decide (i < l.length)) &&
  (List.range l.length).all (fun i => (List.range l.length).all fun j => i == j || dstAt l i == none || dstAt l i != dstAt l j) &&
  (List.range l.length).all (fun i => match dstAt l i with | some d => decide (d < n) | none => true) &&
  (match ts.find? (·.2) with | none => true | some (s, _) => fr.all fun i => hangs ms s i || (zs.elem i || (match l[i]? with | some o => pureOp o.op | none => false)))

section draw
variable (P : Program) (e : Ent) (n : Nat) (l : List Oper) (H0 : Hp) (L0 : List Piece) (Q : Post)
/-- an operation that answers v whenever it comes -/
def StDet (z : Bool) (op : Op) (F : Slots) (v : Value) : Prop :=
  ∀ (H1 : Hp) (L1 : List Piece), (pureOp op = true ∨ (Hp.le H0 H1 ∧ (z = true ∨ ∃ O, L1 = O ++ L0))) → Opt P e op F H1 L1 (fun v' H' L' => v' = v ∧ H' = H1 ∧ L' = L1)
/-- the chain of operations that change memory; false: what is there stands -/
def TCh : List (Nat × Bool) → Slots → Hp → List Piece → Prop
  | [], F, H, L => Q .normal F H L
  | (i, m) :: r, F, H, L => ∃ o, l[i]? = some o ∧ ((wantF l F o = true ∧ Opt P e o.op F H L (fun v H' L' => (Hp.le H H' ∧ (m = false → ∃ O, L' = O ++ L)) ∧ TCh r (updO F o.dst v) H' L')) ∨ (wantF l F o = false ∧ TCh r (updO F o.dst undef) H L))
/-- what answers one value, and then the chain -/
def Free (zs : List Nat) (ts : List (Nat × Bool)) : List Nat → Slots → Prop
  | [], F => TCh P e l Q ts F H0 L0
  | i :: r, F => ∃ o d, l[i]? = some o ∧ o.dst = some d ∧
      ((wantF l F o = true ∧ ∃ v, StDet P e H0 L0 (zs.elem i) o.op F v ∧ Free zs ts r (upd F d v)) ∨ (wantF l F o = false ∧ Free zs ts r (upd F d undef)))
end draw

theorem updO_at {l : List Oper} {i : Nat} {o : Oper} (ho : l[i]? = some o) : dstAt l i = o.dst := by simp [dstAt, ho]
def fillL (l : List Oper) (val : Nat → Value) : Slots → List Nat → Slots
  | F, [] => F
  | F, i :: r => fillL l val (updO F (dstAt l i) (val i)) r
theorem fillL_congr (l : List Oper) {val val' : Nat → Value} : ∀ (r : List Nat) (F : Slots), (∀ i ∈ r, val i = val' i) → fillL l val F r = fillL l val' F r
  | [], _, _ => rfl
  | i :: r, F, h => by
    rw [fillL, fillL, h i (List.mem_cons_self ..)]
    exact fillL_congr l r _ (fun j hj => h j (List.mem_cons_of_mem _ hj))
theorem fillL_append (l : List Oper) (val : Nat → Value) : ∀ (r r' : List Nat) (F : Slots), fillL l val F (r ++ r') = fillL l val (fillL l val F r) r'
  | [], _, _ => rfl
  | i :: r, r', F => by simp only [List.cons_append, fillL]; exact fillL_append l val r r' _
theorem fillL_none {l : List Oper} {val : Nat → Value} {t : Nat} : ∀ (r : List Nat) (F : Slots), (∀ j ∈ r, dstAt l j ≠ some t) → fillL l val F r t = F t
  | [], _, _ => rfl
  | i :: r, F, h => by
    rw [fillL, fillL_none r _ (fun j hj => h j (List.mem_cons_of_mem _ hj))]
    have := h i (List.mem_cons_self ..)
    cases hd : dstAt l i with
    | none => rfl
    | some d =>
      rw [hd] at this
      exact upd_other _ _ (fun e => this (by rw [e]))
theorem fillL_hit {l : List Oper} {val : Nat → Value} {t j : Nat} (hdis : ∀ i j t, dstAt l i = some t → dstAt l j = some t → i = j) : ∀ (r : List Nat) (F : Slots), j ∈ r → dstAt l j = some t → fillL l val F r t = val j
  | i :: r, F, hj, hd => by
    rw [fillL]
    by_cases hr : j ∈ r
    · exact fillL_hit hdis r _ hr hd
    · have : j = i := by simpa [hr] using hj
      subst this
      rw [fillL_none r _ (fun k hk hkt => hr (by rw [← hdis k j t hkt hd]; exact hk)), hd]
      exact upd_same _ _ _

section extract
variable {P : Program} {e : Ent} {l : List Oper} {H0 : Hp} {L0 : List Piece} {Q : Post} {ts : List (Nat × Bool)} {zs : List Nat}
theorem Free.vals : ∀ (fr : List Nat) (F : Slots), fr.Nodup → Free P e l H0 L0 Q zs ts fr F →
    ∃ val : Nat → Value, (∀ pre i post, fr = pre ++ i :: post → ∃ o d, l[i]? = some o ∧ o.dst = some d ∧
      ((wantF l (fillL l val F pre) o = true ∧ StDet P e H0 L0 (zs.elem i) o.op (fillL l val F pre) (val i)) ∨ (wantF l (fillL l val F pre) o = false ∧ val i = undef))) ∧ TCh P e l Q ts (fillL l val F fr) H0 L0
  | [], F, _, h => ⟨fun _ => undef, (fun pre i post hh => by cases pre <;> cases hh), h⟩
  | i :: r, F, hnd, h => by
    obtain ⟨o, d, ho, hd, h⟩ := h
    rw [List.nodup_cons] at hnd
    have hdst := updO_at ho
    rw [hd] at hdst
    have go : ∀ v, Free P e l H0 L0 Q zs ts r (upd F d v) → ((wantF l F o = true ∧ StDet P e H0 L0 (zs.elem i) o.op F v) ∨ (wantF l F o = false ∧ v = undef)) → ∃ val : Nat → Value, (∀ pre k post, i :: r = pre ++ k :: post → ∃ o d, l[k]? = some o ∧ o.dst = some d ∧
      ((wantF l (fillL l val F pre) o = true ∧ StDet P e H0 L0 (zs.elem k) o.op (fillL l val F pre) (val k)) ∨ (wantF l (fillL l val F pre) o = false ∧ val k = undef))) ∧ TCh P e l Q ts (fillL l val F (i :: r)) H0 L0 := by
      intro v hf hv
      obtain ⟨val, h1, h2⟩ := Free.vals r (upd F d v) hnd.2 hf
      refine ⟨fun j => if j = i then v else val j, ?_, ?_⟩
      · intro pre k post hsp
        cases pre with
        | nil =>
          simp only [List.nil_append, List.cons.injEq] at hsp
          obtain ⟨rfl, rfl⟩ := hsp
          refine ⟨o, d, ho, hd, ?_⟩
          simpa [fillL] using hv
        | cons p pre =>
          simp only [List.cons_append, List.cons.injEq] at hsp
          obtain ⟨rfl, hsp⟩ := hsp
          obtain ⟨o', d', ho', hd', h3⟩ := h1 pre k post hsp
          have hki : k ≠ i := fun ek => hnd.1 (by rw [hsp, ek]; simp)
          have hpre : ∀ j ∈ pre, (if j = i then v else val j) = val j := fun j hj => if_neg (fun ej => hnd.1 (by rw [hsp, ← ej]; simp [hj]))
          refine ⟨o', d', ho', hd', ?_⟩
          simp only [fillL, hdst, updO, if_pos, if_neg hki]
          rw [fillL_congr l pre _ hpre]
          exact h3
      · have hr : ∀ j ∈ r, (if j = i then v else val j) = val j := fun j hj => if_neg (fun ej => hnd.1 (by rw [← ej]; exact hj))
        simp only [fillL, hdst, updO, if_pos]
        rw [fillL_congr l r _ hr]
        exact h2
    rcases h with ⟨hw, v, hs, hf⟩ | ⟨hw, hf⟩
    · exact go v hf (.inl ⟨hw, hs⟩)
    · exact go undef hf (.inr ⟨hw, rfl⟩)
end extract

theorem okOrd_at {l : List Oper} {ms : List Nat} : ∀ (rest pre0 : List Nat), okOrd l ms pre0 rest = true → ∀ pre i post, rest = pre ++ i :: post → okAt l ms (pre.reverse ++ pre0) i post = true
  | [], _, _, pre, i, post, hh => by cases pre <;> cases hh
  | x :: rest, pre0, h, pre, i, post, hh => by
    simp only [okOrd, Bool.and_eq_true] at h
    cases pre with
    | nil =>
      simp only [List.nil_append, List.cons.injEq] at hh
      obtain ⟨rfl, rfl⟩ := hh
      exact h.1
    | cons p pre =>
      simp only [List.cons_append, List.cons.injEq] at hh
      obtain ⟨rfl, hh⟩ := hh
      have := okOrd_at rest (x :: pre0) h.2 pre i post hh
      simpa using this
theorem chain_hangs {l : List Oper} {D : Nat → Prop} {ms : List Nat} (hh : ∀ i, (∃ o, l[i]? = some o ∧ D i) → ∀ j, hangs ms i j = true → D j) (hlt : ∀ i, D i → ∃ o, l[i]? = some o) :
    ∀ (r : List Nat), okChain ms r = true → ∀ pre i post, r = pre ++ i :: post → D i → ∀ j ∈ pre, D j
  | [], _, pre, i, post, hsp, _ => by cases pre <;> cases hsp
  | [x], _, pre, i, post, hsp, _ => by
    cases pre with
    | nil => intro j hj; cases hj
    | cons p pre => simp only [List.cons_append, List.cons.injEq] at hsp; cases pre <;> cases hsp.2
  | x :: y :: r, hc, pre, i, post, hsp, hD => by
    simp only [okChain, Bool.and_eq_true] at hc
    cases pre with
    | nil => intro j hj; cases hj
    | cons p pre =>
      simp only [List.cons_append, List.cons.injEq] at hsp
      obtain ⟨rfl, hsp⟩ := hsp
      have h1 := chain_hangs hh hlt (y :: r) hc.2 pre i post hsp hD
      have hy : D y := by
        cases pre with
        | nil => simp only [List.nil_append, List.cons.injEq] at hsp; rw [hsp.1]; exact hD
        | cons q pre => simp only [List.cons_append, List.cons.injEq] at hsp; rw [hsp.1]; exact h1 q (List.mem_cons_self ..)
      intro j hj
      rcases List.mem_cons.1 hj with rfl | hj
      · exact hh y ((hlt y hy).elim fun o ho => ⟨o, ho, hy⟩) _ hc.1
      · exact h1 j hj


section main
variable {P : Program} {e : Ent} {n : Nat} {l : List Oper} {F0 : Slots} {H0 : Hp} {L0 : List Piece} {Q : Post} {fr : List Nat} {ts : List (Nat × Bool)} {zs : List Nat}
theorem wanted_eq {a : Act} {F : Slots} {o : Oper} (hg : ∀ j want d, o.guard = some (j, want) → dstAt l j = some d → a.tmps.getD d undef = F d) : Region.wanted o (yielded l.toArray a.tmps) = wantF l F o := by
  unfold Region.wanted wantF
  cases hgd : o.guard with
  | none => rfl
  | some jw =>
    obtain ⟨j, want⟩ := jw
    simp only
    have hy : (l.toArray[j]?).bind (·.dst) = dstAt l j := by simp [dstAt]
    cases hd : dstAt l j with
    | none =>
      have : yielded l.toArray a.tmps j = none := by unfold yielded; rw [hy, hd]; rfl
      rw [this]
      rfl
    | some d =>
      have h1 := hg j want d hgd hd
      rw [Array.getD_eq_getD_getElem?] at h1
      have hy2 : yielded l.toArray a.tmps j = match a.tmps[d]? with | some (.bool b) => some b | _ => none := by
        unfold yielded
        rw [hy, hd]
        rfl
      rw [hy2]
      dsimp only
      cases ht : a.tmps[d]? with
      | none =>
        rw [ht] at h1
        simp only [Option.getD_none] at h1
        rw [← h1]
        simp [undef]
      | some v =>
        rw [ht] at h1
        simp only [Option.getD_some] at h1
        rw [← h1]
        cases v <;> simp

structure Ok (l : List Oper) (n : Nat) (fr : List Nat) (ts : List (Nat × Bool)) (zs : List Nat) : Prop where
  dep : Dep l
  ord : okOrd l (closAux l []) [] (fr ++ ts.map (·.1)) = true
  chain : okChain (closAux l []) (ts.map (·.1)) = true
  nd : (fr ++ ts.map (·.1)).Nodup
  cover : ∀ i, i < l.length → i ∈ fr ++ ts.map (·.1)
  lt : ∀ i ∈ fr ++ ts.map (·.1), i < l.length
  dis : ∀ i j t, dstAt l i = some t → dstAt l j = some t → i = j
  dlt : ∀ i d, dstAt l i = some d → d < n
  mod : ∀ s, ts.find? (·.2) = some s → ∀ i ∈ fr, hangs (closAux l []) s.1 i = true ∨ zs.elem i = true ∨ ∃ o, l[i]? = some o ∧ pureOp o.op = true
theorem dstAt_lt {l : List Oper} {i d : Nat} (h : dstAt l i = some d) : i < l.length := by
  unfold dstAt at h
  cases ho : l[i]? with
  | none => rw [ho] at h; cases h
  | some o => exact (List.getElem?_eq_some_iff.1 ho).1
theorem Ok.of {l : List Oper} {n : Nat} {fr : List Nat} {ts : List (Nat × Bool)} {zs : List Nat} (h : okDraw l n fr ts zs = true) : Ok l n fr ts zs := by
  simp only [okDraw, Bool.and_eq_true, decide_eq_true_eq, List.all_eq_true, List.mem_range, Bool.not_eq_true', Bool.or_eq_true, beq_iff_eq, bne_iff_ne, ne_eq, List.elem_iff] at h
  obtain ⟨⟨⟨⟨⟨⟨⟨⟨⟨h1, h2⟩, h3⟩, h4⟩, h5⟩, h6⟩, h7⟩, h8⟩, h9⟩, h10⟩ := h
  refine ⟨dep_of h1 (by simp only [Bool.or_eq_true, Bool.not_eq_true']; exact h2), h3, h4, h5, h6, h7, ?_, ?_, ?_⟩
  · intro i j t hi hj
    rcases h8 i (dstAt_lt hi) j (dstAt_lt hj) with (h' | h') | h'
    · exact h'
    · rw [hi] at h'; cases h'
    · exact absurd (hi.trans hj.symm) h'
  · intro i d hd
    have := h9 i (dstAt_lt hd)
    rw [hd] at this
    simpa using this
  · intro s hs i hi
    rw [hs] at h10
    simp only [List.all_eq_true, Bool.or_eq_true] at h10
    rcases h10 i hi with h' | h' | h'
    · exact .inl h'
    · exact .inr (.inl (by simpa using h'))
    · cases ho : l[i]? with
      | none => rw [ho] at h'; cases h'
      | some o => rw [ho] at h'; exact .inr (.inr ⟨o, rfl, h'⟩)

theorem tmp_mem {o : Oper} {t : Nat} (h : Operand.tmp t ∈ o.op.operands) : t ∈ tmpsAt l o := by
  unfold tmpsAt
  refine List.mem_append_left _ (List.mem_filterMap.2 ⟨.tmp t, by simpa using h, rfl⟩)
theorem guard_mem {o : Oper} {j d : Nat} {want : Bool} (h : o.guard = some (j, want)) (hd : dstAt l j = some d) : d ∈ tmpsAt l o := by
  unfold tmpsAt
  refine List.mem_append_right _ ?_
  rw [h]
  simp [hd]
theorem t_draw {id : Nat} (hok : okDraw l n fr ts zs = true) (h : Free P e l H0 L0 Q zs ts fr F0) : Tri P e n (.region id l.toArray true) F0 H0 L0 Q := by
  have ok := Ok.of hok
  obtain ⟨val, hval, htch⟩ := Free.vals fr F0 (List.nodup_append.1 ok.nd).1 h
  refine ⟨fun a w hf hs => wp_region_draw fun t => ?_⟩
  obtain ⟨m, t', rk, ht', hacy⟩ := ok.dep (P.follows .mixedOrders) t
  rw [ht']
  show wpOps P l.toArray _ (Region.linearise.go m l.toArray l.toArray.size t' (Array.replicate l.toArray.size false) []) a w.drew
  let done : Array Bool → Nat → Prop := fun listed i => listed[i]? = some true
  let J : Array Bool → Act → World → Prop := fun listed a w => ∃ tk tr G H L, ts = tk ++ tr ∧
    (∀ i o, l[i]? = some o → done listed i → ∀ ed ∈ o.after, Region.binds .any ed = true → done listed ed.on) ∧
    (∀ x ∈ tk, done listed x.1) ∧ (∀ x ∈ tr, ¬ done listed x.1) ∧ TCh P e l Q tr G H L ∧ (Hp.le H0 H ∧ ((∀ x ∈ tk, x.2 = false) → ∃ O, L = O ++ L0)) ∧ Sees e H L w ∧
    a.defers = [] ∧ a.tmps.size = n ∧ (∀ j d, dstAt l j = some d → done listed j → a.tmps.getD d undef = G d) ∧ (∀ d, (∀ j, dstAt l j = some d → ¬ done listed j) → a.tmps.getD d undef = F0 d) ∧
    (∀ j ∈ fr, ∀ d, dstAt l j = some d → G d = val j) ∧ (∀ x ∈ tr, ∀ d, dstAt l x.1 = some d → G d = F0 d) ∧ (∀ d, (∀ j, dstAt l j ≠ some d) → G d = F0 d)
  have hgetF : ∀ (listed : Array Bool) (i : Nat), listed.size = l.length → (listed.getD i false = true ↔ done listed i) := by
    intro listed i _
    rw [Array.getD_eq_getD_getElem?]
    show _ ↔ listed[i]? = some true
    cases listed[i]? with
    | none => simp
    | some b => simp
  have hset : ∀ (listed : Array Bool) (i j : Nat), listed[i]? = some false → (done (listed.setIfInBounds i true) j ↔ j = i ∨ done listed j) := by
    intro listed i j hi
    have hlt : i < listed.size := (Array.getElem?_eq_some_iff.1 hi).1
    show (listed.setIfInBounds i true)[j]? = some true ↔ _
    rw [Array.getElem?_setIfInBounds]
    by_cases e : i = j
    · subst e; simp [hlt]
    · rw [if_neg e]
      exact ⟨.inr, fun h' => h'.resolve_left (fun e' => e e'.symm)⟩
  refine go_run J m rk (by simpa using hacy) ?_ ?_ _ _ _ _ _ (by simp) (Nat.le_trans List.countP_le_length (by simp)) ?_
  · -- a step
    intro listed a w i o hsz hJ ho hun hed
    have ho' : l[i]? = some o := by simpa using ho
    have hsz' : listed.size = l.length := by simpa using hsz
    obtain ⟨tk, tr, G, H, L, hts, hcl, htk, htr, hch, hmd, hse, hdf, hn, hdn, hud, hGf, hGt, hGn⟩ := hJ
    have hnd : ¬ done listed i := by show ¬ listed[i]? = some true; rw [hun]; simp
    have hed' : ∀ ed ∈ o.after, Region.binds .any ed = true → done listed ed.on := fun ed h1 h2 => (hgetF listed _ hsz').1 (hed ed h1 h2)
    have hh : ∀ j, hangs (closAux l []) i j = true → done listed j := hangs_done hcl i o ho' hed'
    have hhD : ∀ k, done listed k → ∀ j, hangs (closAux l []) k j = true → done listed j := by
      intro k hk j hj
      have hkl : k < l.length := by
        have := (Array.getElem?_eq_some_iff.1 (show listed[k]? = some true from hk)).1
        omega
      exact hangs_done hcl k _ (List.getElem?_eq_getElem hkl) (hcl k _ (List.getElem?_eq_getElem hkl) hk) j hj
    have hcl' : ∀ k ok', l[k]? = some ok' → done (listed.setIfInBounds i true) k → ∀ ed ∈ ok'.after, Region.binds .any ed = true → done (listed.setIfInBounds i true) ed.on := by
      intro k ok' hk hdk ed h1 h2
      rw [hset listed i _ hun]
      rw [hset listed i _ hun] at hdk
      rcases hdk with rfl | hdk
      · rw [ho'] at hk
        cases hk
        exact .inr (hed' ed h1 h2)
      · exact .inr (hcl k ok' hk hdk ed h1 h2)
    have hil : i < l.length := (List.getElem?_eq_some_iff.1 ho').1
    have hmem := ok.cover i hil
    have hdst := updO_at ho'
    by_cases hif : i ∈ fr
    · -- one that answers whenever it comes
      obtain ⟨pre, post, hsp⟩ := List.append_of_mem hif
      obtain ⟨o1, d, ho1, hd, hcase⟩ := hval pre i post hsp
      rw [ho'] at ho1
      cases ho1
      rw [hd] at hdst
      have hat := okOrd_at _ _ ok.ord pre i (post ++ ts.map (·.1)) (by rw [hsp]; simp)
      simp only [okAt, ho', List.append_nil, List.all_eq_true, Bool.and_eq_true, Bool.or_eq_true, bne_iff_ne, ne_eq, List.mem_reverse] at hat
      have hop : ∀ t' ∈ tmpsAt l o, a.tmps.getD t' undef = fillL l val F0 pre t' := by
        intro t' ht'
        obtain ⟨hp1, hp2⟩ := hat t' ht'
        by_cases hw : ∃ j, dstAt l j = some t'
        · obtain ⟨j, hj⟩ := hw
          have hjm := ok.cover j (dstAt_lt hj)
          rw [hsp] at hjm
          simp only [List.append_assoc, List.cons_append, List.mem_append, List.mem_cons] at hjm
          have hnotpre : j ∉ pre → fillL l val F0 pre t' = F0 t' := fun hnp => fillL_none pre F0 (fun k hk hkt => hnp (by rw [← ok.dis k j t' hkt hj]; exact hk))
          have hndp := ok.nd
          rw [hsp] at hndp
          rcases hjm with hjp | rfl | hjq
          · have hdj := hh j ((hp1 j hjp).resolve_left (fun hne => hne hj))
            rw [hdn j t' hj hdj, fillL_hit ok.dis pre F0 hjp hj]
            exact hGf j (by rw [hsp]; simp [hjp]) t' hj
          · rw [hud t' (fun k hk => by rw [ok.dis k j t' hk hj]; exact hnd), hnotpre]
            intro hjp
            simp only [List.append_assoc, List.cons_append] at hndp
            have := (List.nodup_append.1 hndp).2.2 j hjp j (by simp)
            exact this rfl
          · have hnj : ¬ done listed j := by
              intro hdj
              have hji := (hp2 j (by simpa using hjq)).resolve_left (fun hne => hne hj)
              exact hnd (hhD j hdj i hji)
            rw [hud t' (fun k hk => by rw [ok.dis k j t' hk hj]; exact hnj), hnotpre]
            intro hjp
            simp only [List.append_assoc, List.cons_append] at hndp
            exact (List.nodup_append.1 hndp).2.2 j hjp j (by simp only [List.mem_cons, List.mem_append]; exact .inr hjq) rfl
        · rw [hud t' (fun k hk => absurd ⟨k, hk⟩ hw), fillL_none pre F0 (fun k _ hk => hw ⟨k, hk⟩)]
      have hwant : Region.wanted o (yielded l.toArray a.tmps) = wantF l (fillL l val F0 pre) o := wanted_eq fun j want d' hg hd' => hop d' (guard_mem hg hd')
      have hfill : G d = val i := hGf i hif d hdst
      have hJ' : ∀ a' w', Sees e H L w' → a' = a.put (some d) (val i) → J (listed.setIfInBounds i true) a' w' := by
        intro a' w' hse' ha'
        subst ha'
        refine ⟨tk, tr, G, H, L, hts, hcl', fun x hx => (hset listed i _ hun).2 (.inr (htk x hx)), fun x hx hdx => ?_, hch, hmd, hse', hdf, by simpa [Act.put] using hn, ?_, ?_, hGf, hGt, hGn⟩
        · rcases (hset listed i _ hun).1 hdx with h1 | h1
          · have := (List.nodup_append.1 ok.nd).2.2 i hif x.1 (by rw [hts]; simp only [List.map_append, List.mem_append]; exact .inr (List.mem_map_of_mem hx))
            exact this h1.symm
          · exact htr x hx h1
        · intro j d' hj hdj
          have hfr1 : Fr a (fun t => a.tmps.getD t undef) n := ⟨hdf, hn, fun _ => rfl⟩
          have hg := (hfr1.put (ok.dlt i d hdst) (val i)).get d'
          rw [hg]
          by_cases hdd : d' = d
          · subst hdd
            rw [upd_same, hfill]
          · rw [upd_other _ _ hdd]
            rcases (hset listed i _ hun).1 hdj with rfl | h1
            · rw [hj] at hdst; cases hdst; exact absurd rfl hdd
            · exact hdn j d' hj h1
        · intro d' hno
          have hfr1 : Fr a (fun t => a.tmps.getD t undef) n := ⟨hdf, hn, fun _ => rfl⟩
          have hg := (hfr1.put (ok.dlt i d hdst) (val i)).get d'
          rw [hg]
          have hdd : d' ≠ d := fun e' => hno i (by rw [e']; exact hdst) ((hset listed i _ hun).2 (.inl rfl))
          rw [upd_other _ _ hdd]
          exact hud d' (fun j hj hdj => hno j hj ((hset listed i _ hun).2 (.inr hdj)))
      rcases hcase with ⟨hw, hst⟩ | ⟨hw, hv⟩
      · rw [if_pos (by rw [hwant, hw])]
        intro K hK
        refine (hst H L ?_).run a o w K _ rfl (fun x hx => ?_) hse (fun v w' H' L' hs' ⟨e1, e2, e3⟩ => ?_)
        · cases hp : pureOp o.op with
          | true => exact .inl rfl
          | false =>
            refine .inr ⟨hmd.1, ?_⟩
            cases hz : zs.elem i with
            | true => exact .inl rfl
            | false =>
            refine .inr (hmd.2 fun x hx => ?_)
            cases hx2 : x.2 with
            | false => rfl
            | true =>
              exfalso
              cases hfd : ts.find? (·.2) with
              | none =>
                rw [List.find?_eq_none] at hfd
                exact hfd x (by rw [hts]; simp [hx]) hx2
              | some s =>
                rcases ok.mod s hfd i hif with h1 | h1 | ⟨o2, ho2, hp2⟩
                · have hsk : s ∈ tk := by
                    rw [hts, List.find?_append] at hfd
                    cases hfk : tk.find? (·.2) with
                    | none => rw [List.find?_eq_none] at hfk; exact absurd hx2 (hfk x hx)
                    | some s' => rw [hfk] at hfd; cases hfd; exact List.mem_of_find?_eq_some hfk
                  exact hnd (hhD s.1 (htk s hsk) i h1)
                · rw [hz] at h1; cases h1
                · rw [ho'] at ho2; cases ho2; rw [hp] at hp2; cases hp2
        · cases x with
          | tmp t => exact hop t (tmp_mem hx)
          | const v => rfl
          | global g => rfl
          | func f => rfl
        · subst e1; subst e2; subst e3
          rw [hd]
          exact hK _ _ (hJ' _ _ hs' rfl)
      · rw [if_neg (by rw [hwant, hw]; simp)]
        rw [hd]
        exact hJ' _ _ hse (by rw [hv])
    · -- one of the chain
      have hit : i ∈ ts.map (·.1) := by
        rcases List.mem_append.1 hmem with h1 | h1
        · exact absurd h1 hif
        · exact h1
      have hitr : i ∈ tr.map (·.1) := by
        rw [hts] at hit
        simp only [List.map_append, List.mem_append] at hit
        rcases hit with h1 | h1
        · obtain ⟨x, hx, rfl⟩ := List.mem_map.1 h1
          exact absurd (htk x hx) hnd
        · exact h1
      cases tr with
      | nil => cases hitr
      | cons x tr =>
        obtain ⟨i', m⟩ := x
        have hi' : i' = i := by
          obtain ⟨p1, p2, hsp2⟩ := List.append_of_mem hitr
          cases p1 with
          | nil => simp only [List.map_cons, List.nil_append, List.cons.injEq] at hsp2; exact hsp2.1
          | cons q p1 =>
            exfalso
            simp only [List.map_cons, List.cons_append, List.cons.injEq] at hsp2
            have hD : ∀ k, (done listed k ∨ k = i) → ∃ o, l[k]? = some o := by
              intro k hk
              rcases hk with hk | rfl
              · have := (Array.getElem?_eq_some_iff.1 (show listed[k]? = some true from hk)).1
                exact ⟨_, List.getElem?_eq_getElem (by omega)⟩
              · exact ⟨o, ho'⟩
            have := chain_hangs (l := l) (D := fun k => done listed k ∨ k = i) (ms := closAux l []) (fun k ⟨_, _, hk⟩ j hj => by
              rcases hk with hk | rfl
              · exact .inl (hhD k hk j hj)
              · exact .inl (hh j hj)) hD (ts.map (·.1)) ok.chain (tk.map (·.1) ++ i' :: p1) i p2 (by rw [hts]; simp [hsp2.2]) (.inr rfl) i' (by simp)
            rcases this with h1 | h1
            · exact htr (i', m) (List.mem_cons_self ..) h1
            · have hnd2 := (List.nodup_append.1 ok.nd).2.1
              rw [hts] at hnd2
              simp only [List.map_append, List.map_cons, hsp2.2] at hnd2
              rw [h1] at hnd2
              have := (List.nodup_append.1 hnd2).2.1
              simp at this
        subst hi'
        obtain ⟨o1, ho1, hopt⟩ := hch
        rw [ho'] at ho1
        cases ho1
        have hat := okOrd_at _ _ ok.ord (fr ++ tk.map (·.1)) i' (tr.map (·.1)) (by rw [hts]; simp)
        simp only [okAt, ho', List.append_nil, List.all_eq_true, Bool.and_eq_true, Bool.or_eq_true, bne_iff_ne, ne_eq, List.mem_reverse] at hat
        have hop : ∀ t' ∈ tmpsAt l o, a.tmps.getD t' undef = G t' := by
          intro t' ht'
          obtain ⟨hp1, hp2⟩ := hat t' ht'
          by_cases hw : ∃ j, dstAt l j = some t'
          · obtain ⟨j, hj⟩ := hw
            have hjm := ok.cover j (dstAt_lt hj)
            rw [hts] at hjm
            simp only [List.map_append, List.map_cons] at hjm
            rw [← List.append_assoc, List.mem_append, List.mem_cons] at hjm
            rcases hjm with hjp | rfl | hjq
            · exact hdn j t' hj (hh j ((hp1 j hjp).resolve_left (fun hne => hne hj)))
            · rw [hud t' (fun k hk => by rw [ok.dis k j t' hk hj]; exact hnd)]
              exact (hGt (j, m) (List.mem_cons_self ..) t' hj).symm
            · have hnj : ¬ done listed j := by
                intro hdj
                exact hnd (hhD j hdj i' ((hp2 j hjq).resolve_left (fun hne => hne hj)))
              obtain ⟨x, hx, rfl⟩ := List.mem_map.1 hjq
              rw [hud t' (fun k hk => by rw [ok.dis k _ t' hk hj]; exact hnj)]
              exact (hGt x (List.mem_cons_of_mem _ hx) t' hj).symm
          · rw [hud t' (fun k hk => absurd ⟨k, hk⟩ hw), hGn t' (fun k hk => hw ⟨k, hk⟩)]
        have hwant : Region.wanted o (yielded l.toArray a.tmps) = wantF l G o := wanted_eq fun j want d' hg hd' => hop d' (guard_mem hg hd')
        have fin : ∀ v w' H' L', Sees e H' L' w' → (Hp.le H H' ∧ (m = false → ∃ O, L' = O ++ L)) → TCh P e l Q tr (updO G o.dst v) H' L' → J (listed.setIfInBounds i' true) (a.put o.dst v) w' := by
          intro v w' H' L' hs' hext hch'
          have hnin : ∀ x ∈ tr, x.1 ≠ i' := fun x hx he => by
            have hnd2 := (List.nodup_append.1 ok.nd).2.1
            rw [hts] at hnd2
            simp only [List.map_append, List.map_cons] at hnd2
            have := (List.nodup_append.1 hnd2).2.1
            simp only [List.nodup_cons] at this
            exact this.1 (by rw [← he]; exact List.mem_map_of_mem hx)
          have hup : ∀ d', (∀ d, o.dst = some d → d' ≠ d) → updO G o.dst v d' = G d' := by
            intro d' hne
            cases hd : o.dst with
            | none => rfl
            | some d => exact upd_other _ _ (hne d hd)
          have hput : ∀ d', (a.put o.dst v).tmps.getD d' undef = updO (fun t => a.tmps.getD t undef) o.dst v d' := by
            intro d'
            cases hd : o.dst with
            | none => rfl
            | some d =>
              have hfr1 : Fr a (fun t => a.tmps.getD t undef) n := ⟨hdf, hn, fun _ => rfl⟩
              rw [hd] at hdst
              exact (hfr1.put (ok.dlt i' d hdst) v).get d'
          refine ⟨tk ++ [(i', m)], tr, updO G o.dst v, H', L', by rw [hts]; simp, hcl', ?_, ?_, hch', ?_, hs', ?_, ?_, ?_, ?_, ?_, ?_, ?_⟩
          · intro x hx
            rcases List.mem_append.1 hx with hx | hx
            · exact (hset listed i' _ hun).2 (.inr (htk x hx))
            · simp only [List.mem_cons, List.not_mem_nil, or_false] at hx
              subst hx
              exact (hset listed i' _ hun).2 (.inl rfl)
          · intro x hx hdx
            rcases (hset listed i' _ hun).1 hdx with h1 | h1
            · exact hnin x hx h1
            · exact htr x (List.mem_cons_of_mem _ hx) h1
          · refine ⟨hmd.1.trans hext.1, fun hall => ?_⟩
            obtain ⟨O, h2⟩ := hmd.2 (fun x hx => hall x (List.mem_append_left _ hx))
            obtain ⟨O', h4⟩ := hext.2 (hall (i', m) (by simp))
            exact ⟨O' ++ O, by rw [h4, h2, List.append_assoc]⟩
          · cases o.dst <;> exact hdf
          · cases hd : o.dst <;> simp [Act.put, hn]
          · intro j d' hj hdj
            rw [hput]
            rcases (hset listed i' _ hun).1 hdj with rfl | h1
            · rw [hdst] at hj
              rw [hj]
              simp only [updO, upd_same]
            · have hne : ∀ d, o.dst = some d → d' ≠ d := fun d hd he => by
                subst he
                rw [hd] at hdst
                have := ok.dis j i' d' hj hdst
                subst this
                exact hnd h1
              rw [hup d' hne, ← hdn j d' hj h1]
              cases hd : o.dst with
              | none => rfl
              | some d => exact upd_other (fun t => a.tmps.getD t undef) v (hne d hd)
          · intro d' hno
            rw [hput]
            have hne : ∀ d, o.dst = some d → d' ≠ d := fun d hd he => by
              subst he
              rw [hd] at hdst
              exact hno i' hdst ((hset listed i' _ hun).2 (.inl rfl))
            rw [← hud d' (fun j hj hdj => hno j hj ((hset listed i' _ hun).2 (.inr hdj)))]
            cases hd : o.dst with
            | none => rfl
            | some d => exact upd_other (fun t => a.tmps.getD t undef) v (hne d hd)
          · intro j hj d' hjd
            rw [hup d' (fun d hd he => by
              subst he
              rw [hd] at hdst
              rw [ok.dis j i' d' hjd hdst] at hj
              exact hif hj)]
            exact hGf j hj d' hjd
          · intro x hx d' hxd
            rw [hup d' (fun d hd he => by
              subst he
              rw [hd] at hdst
              exact hnin x hx (ok.dis x.1 i' d' hxd hdst))]
            exact hGt x (List.mem_cons_of_mem _ hx) d' hxd
          · intro d' hno
            rw [hup d' (fun d hd he => by
              subst he
              rw [hd] at hdst
              exact hno i' hdst)]
            exact hGn d' hno
        rcases hopt with ⟨hw1, hopt⟩ | ⟨hw1, hch'⟩
        · rw [if_pos (by rw [hwant, hw1])]
          intro K hK
          refine hopt.run a o w K _ rfl (fun x hx => ?_) hse (fun v w' H' L' hs' ⟨hext, hch'⟩ => hK _ _ (fin v w' H' L' hs' hext hch'))
          cases x with
          | tmp t => exact hop t (tmp_mem hx)
          | const v => rfl
          | global g => rfl
          | func f => rfl
        · rw [if_neg (by rw [hwant, hw1]; simp)]
          exact fin undef w H L hse ⟨Hp.le.refl _, fun _ => ⟨[], rfl⟩⟩ hch'
  · -- the end
    intro listed a w hall hJ
    obtain ⟨tk, tr, G, H, L, hts, hcl, htk, htr, hch, hmd, hse, hdf, hn, hdn, hud, hGf, hGt, hGn⟩ := hJ
    have htr0 : tr = [] := by
      cases tr with
      | nil => rfl
      | cons x tr =>
        exfalso
        refine htr x (List.mem_cons_self ..) (hall x.1 ?_)
        have := ok.lt x.1 (by rw [hts]; simp)
        simpa using this
    subst htr0
    refine ⟨G, H, L, ⟨hdf, hn, fun d => ?_⟩, hse, hch⟩
    by_cases hw : ∃ j, dstAt l j = some d
    · obtain ⟨j, hj⟩ := hw
      exact hdn j d hj (hall j (by simpa using dstAt_lt hj))
    · rw [hud d (fun k hk => absurd ⟨k, hk⟩ hw), hGn d (fun k hk => hw ⟨k, hk⟩)]
  · -- the start
    have hnone : ∀ i, ¬ done (Array.replicate l.toArray.size false) i := by
      intro i hi
      have : (Array.replicate l.toArray.size false)[i]? = some true := hi
      rw [Array.getElem?_replicate] at this
      split at this <;> simp at this
    refine ⟨[], ts, fillL l val F0 fr, H0, L0, rfl, fun i o _ hd => absurd hd (hnone i), fun x hx => by simp at hx, fun x _ => hnone _, htch, ⟨Hp.le.refl _, fun _ => ⟨[], rfl⟩⟩, hs.drew, hf.defers, hf.size, fun j d _ hd => absurd hd (hnone j), fun d _ => hf.get d, ?_, ?_, ?_⟩
    · intro j hj d hd
      exact fillL_hit ok.dis fr F0 hj hd
    · intro x hx d hd
      exact fillL_none fr F0 (fun j hj hjd => (List.nodup_append.1 ok.nd).2.2 j hj x.1 (List.mem_map_of_mem hx) (ok.dis j x.1 d hjd hd))
    · intro d hno
      exact fillL_none fr F0 (fun j _ => hno j)
end main

end Go.Proofs.YtlghgdgpbnlpmaaGreat
