/- What is proved: a region that draws its order, in which memory may be changed in more than one order: it is walked in each of them. Conditions: none. -/
import Derived.Test.YtlghgdgpbnlpmaaGreatPar
namespace Go.Proofs.YtlghgdgpbnlpmaaGreat
open Go.RowKit
set_option linter.unusedVariables false

def okDrawT (l : List Oper) (n : Nat) (fr : List Nat) (ts : List (Nat × Bool)) (zs : List Nat) : Bool :=
  let ms := closAux l []
  let ord := fr ++ ts.map (·.1)
  acyc l && (!Region.departs l.toArray || acycAll l || acycD l) && okOrd l ms [] ord && decide ord.Nodup && (List.range l.length).all (fun i => ord.elem i) && ord.all (fun i => decide (i < l.length)) &&
  (List.range l.length).all (fun i => (List.range l.length).all fun j => i == j || dstAt l i == none || dstAt l i != dstAt l j) &&
  (List.range l.length).all (fun i => match dstAt l i with | some d => decide (d < n) | none => true) &&
  ts.all fun s => !s.2 || fr.all fun i => hangs ms s.1 i || (zs.elem i || (match l[i]? with | some o => pureOp o.op | none => false))
def rdyO (l : List Oper) (rem : List (Nat × Bool)) (i : Nat) : Bool :=
  match l[i]? with
  | some o => o.after.toList.all fun e => !Region.binds .any e || !(rem.any fun y => Nat.beq y.1 e.on)
  | none => false
def rmv (i : Nat) (rem : List (Nat × Bool)) : List (Nat × Bool) := rem.filter fun y => !Nat.beq y.1 i
section tct
variable (P : Program) (e : Ent) (l : List Oper) (Q : Post)
/-- the operations that change memory, in whatever order they may come -/
def TCT : Nat → List (Nat × Bool) → Slots → Hp → List Piece → Prop
  | _, [], F, H, L => Q .normal F H L
  | 0, _ :: _, _, _, _ => False
  | n + 1, x :: r, F, H, L => ∀ y ∈ x :: r, rdyO l (x :: r) y.1 = true → TCh P e l (fun _ F' H' L' => TCT n (rmv y.1 (x :: r)) F' H' L') [y] F H L
end tct
theorem TCT.at {P : Program} {e : Ent} {l : List Oper} {Q : Post} {fu : Nat} {tr : List (Nat × Bool)} {F : Slots} {H : Hp} {L : List Piece} (h : TCT P e l Q fu tr F H L) {y : Nat × Bool} (hy : y ∈ tr) (hr : rdyO l tr y.1 = true) :
    ∃ fu', TCh P e l (fun _ F' H' L' => TCT P e l Q fu' (rmv y.1 tr) F' H' L') [y] F H L := by
  cases tr with
  | nil => cases hy
  | cons x r =>
    cases fu with
    | zero => exact h.elim
    | succ n => exact ⟨n, h y hy hr⟩
theorem TCT.fin {P : Program} {e : Ent} {l : List Oper} {Q : Post} {fu : Nat} {F : Slots} {H : Hp} {L : List Piece} (h : TCT P e l Q fu [] F H L) : Q .normal F H L := by
  cases fu <;> exact h
section main
variable {P : Program} {e : Ent} {n : Nat} {l : List Oper} {F0 : Slots} {H0 : Hp} {L0 : List Piece} {Q : Post} {fr : List Nat} {ts : List (Nat × Bool)} {zs : List Nat}
structure OkT (l : List Oper) (n : Nat) (fr : List Nat) (ts : List (Nat × Bool)) (zs : List Nat) : Prop where
  dep : Dep l
  ord : okOrd l (closAux l []) [] (fr ++ ts.map (·.1)) = true
  nd : (fr ++ ts.map (·.1)).Nodup
  cover : ∀ i, i < l.length → i ∈ fr ++ ts.map (·.1)
  lt : ∀ i ∈ fr ++ ts.map (·.1), i < l.length
  dis : ∀ i j t, dstAt l i = some t → dstAt l j = some t → i = j
  dlt : ∀ i d, dstAt l i = some d → d < n
  mod : ∀ s ∈ ts, s.2 = true → ∀ i ∈ fr, hangs (closAux l []) s.1 i = true ∨ zs.elem i = true ∨ ∃ o, l[i]? = some o ∧ pureOp o.op = true
theorem OkT.of {l : List Oper} {n : Nat} {fr : List Nat} {ts : List (Nat × Bool)} {zs : List Nat} (h : okDrawT l n fr ts zs = true) : OkT l n fr ts zs := by
  simp only [okDrawT, Bool.and_eq_true, decide_eq_true_eq, List.all_eq_true, List.mem_range, Bool.not_eq_true', Bool.or_eq_true, beq_iff_eq, bne_iff_ne, ne_eq, List.elem_iff] at h
  obtain ⟨⟨⟨⟨⟨⟨⟨⟨h1, h2⟩, h3⟩, h5⟩, h6⟩, h7⟩, h8⟩, h9⟩, h10⟩ := h
  refine ⟨dep_of h1 (by simp only [Bool.or_eq_true, Bool.not_eq_true']; exact h2), h3, h5, h6, h7, ?_, ?_, ?_⟩
  · intro i j t hi hj
    rcases h8 i (dstAt_lt hi) j (dstAt_lt hj) with (h' | h') | h'
    · exact h'
    · rw [hi] at h'; cases h'
    · exact absurd (hi.trans hj.symm) h'
  · intro i d hd
    have := h9 i (dstAt_lt hd)
    rw [hd] at this
    simpa using this
  · intro s hs hs2 i hi
    rcases h10 s hs with h' | h'
    · rw [hs2] at h'; cases h'
    rcases h' i hi with h' | h' | h'
    · exact .inl h'
    · exact .inr (.inl (by simpa using h'))
    · cases ho : l[i]? with
      | none => rw [ho] at h'; cases h'
      | some o => rw [ho] at h'; exact .inr (.inr ⟨o, rfl, h'⟩)

theorem t_drawT {Q1 : Post} {fu : Nat} {id : Nat} (hok : okDrawT l n fr ts zs = true) (h : Free P e l H0 L0 Q1 zs [] fr F0) (hQ1 : ∀ F, Q1 .normal F H0 L0 → TCT P e l Q fu ts F H0 L0) : Tri P e n (.region id l.toArray true) F0 H0 L0 Q := by
  have ok := OkT.of hok
  obtain ⟨val, hval, htch⟩ := Free.vals fr F0 (List.nodup_append.1 ok.nd).1 h
  refine ⟨fun a w hf hs => wp_region_draw fun t => ?_⟩
  obtain ⟨m, t', rk, ht', hacy⟩ := ok.dep (P.follows .mixedOrders) t
  rw [ht']
  show wpOps P l.toArray _ (Region.linearise.go m l.toArray l.toArray.size t' (Array.replicate l.toArray.size false) []) a w.drew
  let done : Array Bool → Nat → Prop := fun listed i => listed[i]? = some true
  let J : Array Bool → Act → World → Prop := fun listed a w => ∃ fu tr G H L,
    (∀ i o, l[i]? = some o → done listed i → ∀ ed ∈ o.after, Region.binds .any ed = true → done listed ed.on) ∧
    (∀ x, x ∈ tr ↔ x ∈ ts ∧ ¬ done listed x.1) ∧ TCT P e l Q fu tr G H L ∧ (Hp.le H0 H ∧ ((∀ x ∈ ts, done listed x.1 → x.2 = false) → ∃ O, L = O ++ L0)) ∧ Sees e H L w ∧
    a.defers = [] ∧ a.tmps.size = n ∧ (∀ j d, dstAt l j = some d → done listed j → a.tmps.getD d undef = G d) ∧ (∀ d, (∀ j, dstAt l j = some d → ¬ done listed j) → a.tmps.getD d undef = F0 d) ∧
    (∀ j ∈ fr, ∀ d, dstAt l j = some d → G d = val j) ∧ (∀ x ∈ tr, ∀ d, dstAt l x.1 = some d → G d = F0 d) ∧ (∀ d, (∀ j, dstAt l j ≠ some d) → G d = F0 d)
  have hgetF : ∀ (listed : Array Bool) (i : Nat), listed.size = l.length → (listed.getD i false = true ↔ done listed i) := by
    intro listed i _
    rw [Array.getD_eq_getD_getElem?]
    show _ ↔ listed[i]? = some true
    cases listed[i]? with
    | none => simp
    | some b => simp
  have hset : ∀ (listed : Array Bool) (i j : Nat), listed[i]? = some false → (done (listed.setIfInBounds i true) j ↔ j = i ∨ done listed j) := by
    intro listed i j hi
    have hlt : i < listed.size := (Array.getElem?_eq_some_iff.1 hi).1
    show (listed.setIfInBounds i true)[j]? = some true ↔ _
    rw [Array.getElem?_setIfInBounds]
    by_cases e : i = j
    · subst e; simp [hlt]
    · rw [if_neg e]
      exact ⟨.inr, fun h' => h'.resolve_left (fun e' => e e'.symm)⟩
  refine go_run J m rk (by simpa using hacy) ?_ ?_ _ _ _ _ _ (by simp) (Nat.le_trans List.countP_le_length (by simp)) ?_
  · -- a step
    intro listed a w i o hsz hJ ho hun hed
    have ho' : l[i]? = some o := by simpa using ho
    have hsz' : listed.size = l.length := by simpa using hsz
    obtain ⟨fu, tr, G, H, L, hcl, htr, hch, hmd, hse, hdf, hn, hdn, hud, hGf, hGt, hGn⟩ := hJ
    have hnd : ¬ done listed i := by show ¬ listed[i]? = some true; rw [hun]; simp
    have hed' : ∀ ed ∈ o.after, Region.binds .any ed = true → done listed ed.on := fun ed h1 h2 => (hgetF listed _ hsz').1 (hed ed h1 h2)
    have hh : ∀ j, hangs (closAux l []) i j = true → done listed j := hangs_done hcl i o ho' hed'
    have hhD : ∀ k, done listed k → ∀ j, hangs (closAux l []) k j = true → done listed j := by
      intro k hk j hj
      have hkl : k < l.length := by
        have := (Array.getElem?_eq_some_iff.1 (show listed[k]? = some true from hk)).1
        omega
      exact hangs_done hcl k _ (List.getElem?_eq_getElem hkl) (hcl k _ (List.getElem?_eq_getElem hkl) hk) j hj
    have hcl' : ∀ k ok', l[k]? = some ok' → done (listed.setIfInBounds i true) k → ∀ ed ∈ ok'.after, Region.binds .any ed = true → done (listed.setIfInBounds i true) ed.on := by
      intro k ok' hk hdk ed h1 h2
      rw [hset listed i _ hun]
      rw [hset listed i _ hun] at hdk
      rcases hdk with rfl | hdk
      · rw [ho'] at hk
        cases hk
        exact .inr (hed' ed h1 h2)
      · exact .inr (hcl k ok' hk hdk ed h1 h2)
    have hil : i < l.length := (List.getElem?_eq_some_iff.1 ho').1
    have hmem := ok.cover i hil
    have hdst := updO_at ho'
    by_cases hif : i ∈ fr
    · -- one that answers whenever it comes
      obtain ⟨pre, post, hsp⟩ := List.append_of_mem hif
      obtain ⟨o1, d, ho1, hd, hcase⟩ := hval pre i post hsp
      rw [ho'] at ho1
      cases ho1
      rw [hd] at hdst
      have hat := okOrd_at _ _ ok.ord pre i (post ++ ts.map (·.1)) (by rw [hsp]; simp)
      simp only [okAt, ho', List.append_nil, List.all_eq_true, Bool.and_eq_true, Bool.or_eq_true, bne_iff_ne, ne_eq, List.mem_reverse] at hat
      have hop : ∀ t' ∈ tmpsAt l o, a.tmps.getD t' undef = fillL l val F0 pre t' := by
        intro t' ht'
        obtain ⟨hp1, hp2⟩ := hat t' ht'
        by_cases hw : ∃ j, dstAt l j = some t'
        · obtain ⟨j, hj⟩ := hw
          have hjm := ok.cover j (dstAt_lt hj)
          rw [hsp] at hjm
          simp only [List.append_assoc, List.cons_append, List.mem_append, List.mem_cons] at hjm
          have hnotpre : j ∉ pre → fillL l val F0 pre t' = F0 t' := fun hnp => fillL_none pre F0 (fun k hk hkt => hnp (by rw [← ok.dis k j t' hkt hj]; exact hk))
          have hndp := ok.nd
          rw [hsp] at hndp
          rcases hjm with hjp | rfl | hjq
          · have hdj := hh j ((hp1 j hjp).resolve_left (fun hne => hne hj))
            rw [hdn j t' hj hdj, fillL_hit ok.dis pre F0 hjp hj]
            exact hGf j (by rw [hsp]; simp [hjp]) t' hj
          · rw [hud t' (fun k hk => by rw [ok.dis k j t' hk hj]; exact hnd), hnotpre]
            intro hjp
            simp only [List.append_assoc, List.cons_append] at hndp
            have := (List.nodup_append.1 hndp).2.2 j hjp j (by simp)
            exact this rfl
          · have hnj : ¬ done listed j := by
              intro hdj
              have hji := (hp2 j (by simpa using hjq)).resolve_left (fun hne => hne hj)
              exact hnd (hhD j hdj i hji)
            rw [hud t' (fun k hk => by rw [ok.dis k j t' hk hj]; exact hnj), hnotpre]
            intro hjp
            simp only [List.append_assoc, List.cons_append] at hndp
            exact (List.nodup_append.1 hndp).2.2 j hjp j (by simp only [List.mem_cons, List.mem_append]; exact .inr hjq) rfl
        · rw [hud t' (fun k hk => absurd ⟨k, hk⟩ hw), fillL_none pre F0 (fun k _ hk => hw ⟨k, hk⟩)]
      have hwant : Region.wanted o (yielded l.toArray a.tmps) = wantF l (fillL l val F0 pre) o := wanted_eq fun j want d' hg hd' => hop d' (guard_mem hg hd')
      have hfill : G d = val i := hGf i hif d hdst
      have hJ' : ∀ a' w', Sees e H L w' → a' = a.put (some d) (val i) → J (listed.setIfInBounds i true) a' w' := by
        intro a' w' hse' ha'
        subst ha'
        refine ⟨fu, tr, G, H, L, hcl', fun x => (htr x).trans ⟨fun ⟨h1, h2⟩ => ⟨h1, fun hdx => ?_⟩, fun ⟨h1, h2⟩ => ⟨h1, fun hdx => h2 ((hset listed i _ hun).2 (.inr hdx))⟩⟩, hch, ⟨hmd.1, fun hall => hmd.2 fun x hx hdx => hall x hx ((hset listed i _ hun).2 (.inr hdx))⟩, hse', hdf, by simpa [Act.put] using hn, ?_, ?_, hGf, hGt, hGn⟩
        · rcases (hset listed i _ hun).1 hdx with h3 | h3
          · have := (List.nodup_append.1 ok.nd).2.2 i hif x.1 (List.mem_map_of_mem h1)
            exact this h3.symm
          · exact h2 h3
        · intro j d' hj hdj
          have hfr1 : Fr a (fun t => a.tmps.getD t undef) n := ⟨hdf, hn, fun _ => rfl⟩
          have hg := (hfr1.put (ok.dlt i d hdst) (val i)).get d'
          rw [hg]
          by_cases hdd : d' = d
          · subst hdd
            rw [upd_same, hfill]
          · rw [upd_other _ _ hdd]
            rcases (hset listed i _ hun).1 hdj with rfl | h1
            · rw [hj] at hdst; cases hdst; exact absurd rfl hdd
            · exact hdn j d' hj h1
        · intro d' hno
          have hfr1 : Fr a (fun t => a.tmps.getD t undef) n := ⟨hdf, hn, fun _ => rfl⟩
          have hg := (hfr1.put (ok.dlt i d hdst) (val i)).get d'
          rw [hg]
          have hdd : d' ≠ d := fun e' => hno i (by rw [e']; exact hdst) ((hset listed i _ hun).2 (.inl rfl))
          rw [upd_other _ _ hdd]
          exact hud d' (fun j hj hdj => hno j hj ((hset listed i _ hun).2 (.inr hdj)))
      rcases hcase with ⟨hw, hst⟩ | ⟨hw, hv⟩
      · rw [if_pos (by rw [hwant, hw])]
        intro K hK
        refine (hst H L ?_).run a o w K _ rfl (fun x hx => ?_) hse (fun v w' H' L' hs' ⟨e1, e2, e3⟩ => ?_)
        · cases hp : pureOp o.op with
          | true => exact .inl rfl
          | false =>
            refine .inr ⟨hmd.1, ?_⟩
            cases hz : zs.elem i with
            | true => exact .inl rfl
            | false =>
            refine .inr (hmd.2 fun x hx hdx => ?_)
            cases hx2 : x.2 with
            | false => rfl
            | true =>
              exfalso
              rcases ok.mod x hx hx2 i hif with h1 | h1 | ⟨o2, ho2, hp2⟩
              · exact hnd (hhD x.1 hdx i h1)
              · rw [hz] at h1; cases h1
              · rw [ho'] at ho2; cases ho2; rw [hp] at hp2; cases hp2
        · cases x with
          | tmp t => exact hop t (tmp_mem hx)
          | const v => rfl
          | global g => rfl
          | func f => rfl
        · subst e1; subst e2; subst e3
          rw [hd]
          exact hK _ _ (hJ' _ _ hs' rfl)
      · rw [if_neg (by rw [hwant, hw]; simp)]
        rw [hd]
        exact hJ' _ _ hse (by rw [hv])
    · -- one of the chain
      have hit : i ∈ ts.map (·.1) := by
        rcases List.mem_append.1 hmem with h1 | h1
        · exact absurd h1 hif
        · exact h1
      obtain ⟨⟨i', m⟩, hx0, hi'⟩ := List.mem_map.1 hit
      simp only at hi'
      subst hi'
      have hxt : (i', m) ∈ tr := (htr _).2 ⟨hx0, hnd⟩
      have hrd : rdyO l tr i' = true := by
        unfold rdyO
        rw [ho']
        simp only [List.all_eq_true, Bool.or_eq_true, Bool.not_eq_true', List.any_eq_false]
        intro ed hedm
        cases hb : Region.binds .any ed with
        | false => exact .inl rfl
        | true =>
          refine .inr fun y hy hyb => ?_
          have hde := hed' ed (by simpa using hedm) hb
          exact ((htr y).1 hy).2 (by rw [Nat.eq_of_beq_eq_true hyb]; exact hde)
      obtain ⟨fu', hch⟩ := TCT.at hch hxt hrd
      obtain ⟨o1, ho1, hopt⟩ := hch
      rw [ho'] at ho1
      cases ho1
      obtain ⟨tk0, tr0, hts⟩ := List.append_of_mem hx0
      have hat := okOrd_at _ _ ok.ord (fr ++ tk0.map (·.1)) i' (tr0.map (·.1)) (by rw [hts]; simp)
      simp only [okAt, ho', List.append_nil, List.all_eq_true, Bool.and_eq_true, Bool.or_eq_true, bne_iff_ne, ne_eq, List.mem_reverse] at hat
      have hop : ∀ t' ∈ tmpsAt l o, a.tmps.getD t' undef = G t' := by
        intro t' ht'
        obtain ⟨hp1, hp2⟩ := hat t' ht'
        by_cases hw : ∃ j, dstAt l j = some t'
        · obtain ⟨j, hj⟩ := hw
          have hjm := ok.cover j (dstAt_lt hj)
          rw [hts] at hjm
          simp only [List.map_append, List.map_cons] at hjm
          rw [← List.append_assoc, List.mem_append, List.mem_cons] at hjm
          rcases hjm with hjp | rfl | hjq
          · exact hdn j t' hj (hh j ((hp1 j hjp).resolve_left (fun hne => hne hj)))
          · rw [hud t' (fun k hk => by rw [ok.dis k j t' hk hj]; exact hnd)]
            exact (hGt (j, m) hxt t' hj).symm
          · have hnj : ¬ done listed j := by
              intro hdj
              exact hnd (hhD j hdj i' ((hp2 j hjq).resolve_left (fun hne => hne hj)))
            obtain ⟨x, hx, rfl⟩ := List.mem_map.1 hjq
            rw [hud t' (fun k hk => by rw [ok.dis k _ t' hk hj]; exact hnj)]
            exact (hGt x ((htr x).2 ⟨by rw [hts]; simp [hx], hnj⟩) t' hj).symm
        · rw [hud t' (fun k hk => absurd ⟨k, hk⟩ hw), hGn t' (fun k hk => hw ⟨k, hk⟩)]
      have hwant : Region.wanted o (yielded l.toArray a.tmps) = wantF l G o := wanted_eq fun j want d' hg hd' => hop d' (guard_mem hg hd')
      have fin : ∀ v w' H' L', Sees e H' L' w' → (Hp.le H H' ∧ (m = false → ∃ O, L' = O ++ L)) → TCT P e l Q fu' (rmv i' tr) (updO G o.dst v) H' L' → J (listed.setIfInBounds i' true) (a.put o.dst v) w' := by
        intro v w' H' L' hs' hext hch'
        have hnin : ∀ x ∈ rmv i' tr, x.1 ≠ i' := fun x hx he => by
          have := (List.mem_filter.1 hx).2
          rw [he, Nat.beq_refl] at this
          cases this
        have hup : ∀ d', (∀ d, o.dst = some d → d' ≠ d) → updO G o.dst v d' = G d' := by
          intro d' hne
          cases hd : o.dst with
          | none => rfl
          | some d => exact upd_other _ _ (hne d hd)
        have hput : ∀ d', (a.put o.dst v).tmps.getD d' undef = updO (fun t => a.tmps.getD t undef) o.dst v d' := by
          intro d'
          cases hd : o.dst with
          | none => rfl
          | some d =>
            have hfr1 : Fr a (fun t => a.tmps.getD t undef) n := ⟨hdf, hn, fun _ => rfl⟩
            rw [hd] at hdst
            exact (hfr1.put (ok.dlt i' d hdst) v).get d'
        refine ⟨fu', rmv i' tr, updO G o.dst v, H', L', hcl', ?_, hch', ?_, hs', ?_, ?_, ?_, ?_, ?_, ?_, ?_⟩
        · intro x
          rw [rmv, List.mem_filter, htr x, hset listed i' _ hun]
          constructor
          · rintro ⟨⟨h1, h2⟩, h3⟩
            refine ⟨h1, fun h4 => ?_⟩
            rcases h4 with h4 | h4
            · rw [h4, Nat.beq_refl] at h3; cases h3
            · exact h2 h4
          · rintro ⟨h1, h2⟩
            refine ⟨⟨h1, fun h4 => h2 (.inr h4)⟩, ?_⟩
            cases hb : Nat.beq x.1 i' with
            | false => rfl
            | true => exact absurd (.inl (Nat.eq_of_beq_eq_true hb)) h2
        · refine ⟨hmd.1.trans hext.1, fun hall => ?_⟩
          obtain ⟨O, h2⟩ := hmd.2 (fun x hx hdx => hall x hx ((hset listed i' _ hun).2 (.inr hdx)))
          obtain ⟨O', h4⟩ := hext.2 (hall (i', m) hx0 ((hset listed i' _ hun).2 (.inl rfl)))
          exact ⟨O' ++ O, by rw [h4, h2, List.append_assoc]⟩
        · cases o.dst <;> exact hdf
        · cases hd : o.dst <;> simp [Act.put, hn]
        · intro j d' hj hdj
          rw [hput]
          rcases (hset listed i' _ hun).1 hdj with rfl | h1
          · rw [hdst] at hj
            rw [hj]
            simp only [updO, upd_same]
          · have hne : ∀ d, o.dst = some d → d' ≠ d := fun d hd he => by
              subst he
              rw [hd] at hdst
              have := ok.dis j i' d' hj hdst
              subst this
              exact hnd h1
            rw [hup d' hne, ← hdn j d' hj h1]
            cases hd : o.dst with
            | none => rfl
            | some d => exact upd_other (fun t => a.tmps.getD t undef) v (hne d hd)
        · intro d' hno
          rw [hput]
          have hne : ∀ d, o.dst = some d → d' ≠ d := fun d hd he => by
            subst he
            rw [hd] at hdst
            exact hno i' hdst ((hset listed i' _ hun).2 (.inl rfl))
          rw [← hud d' (fun j hj hdj => hno j hj ((hset listed i' _ hun).2 (.inr hdj)))]
          cases hd : o.dst with
          | none => rfl
          | some d => exact upd_other (fun t => a.tmps.getD t undef) v (hne d hd)
        · intro j hj d' hjd
          rw [hup d' (fun d hd he => by
            subst he
            rw [hd] at hdst
            rw [ok.dis j i' d' hjd hdst] at hj
            exact hif hj)]
          exact hGf j hj d' hjd
        · intro x hx d' hxd
          rw [hup d' (fun d hd he => by
            subst he
            rw [hd] at hdst
            exact hnin x hx (ok.dis x.1 i' d' hxd hdst))]
          exact hGt x (List.mem_filter.1 hx).1 d' hxd
        · intro d' hno
          rw [hup d' (fun d hd he => by
            subst he
            rw [hd] at hdst
            exact hno i' hdst)]
          exact hGn d' hno
      rcases hopt with ⟨hw1, hopt⟩ | ⟨hw1, hch'⟩
      · rw [if_pos (by rw [hwant, hw1])]
        intro K hK
        refine hopt.run a o w K _ rfl (fun x hx => ?_) hse (fun v w' H' L' hs' ⟨hext, hch'⟩ => hK _ _ (fin v w' H' L' hs' hext hch'))
        cases x with
        | tmp t => exact hop t (tmp_mem hx)
        | const v => rfl
        | global g => rfl
        | func f => rfl
      · rw [if_neg (by rw [hwant, hw1]; simp)]
        exact fin undef w H L hse ⟨Hp.le.refl _, fun _ => ⟨[], rfl⟩⟩ hch'
  · -- the end
    intro listed a w hall hJ
    obtain ⟨fu, tr, G, H, L, hcl, htr, hch, hmd, hse, hdf, hn, hdn, hud, hGf, hGt, hGn⟩ := hJ
    have htr0 : tr = [] := by
      cases tr with
      | nil => rfl
      | cons x tr =>
        exfalso
        have hx := (htr x).1 (List.mem_cons_self ..)
        refine hx.2 (hall x.1 ?_)
        have := ok.lt x.1 (List.mem_append_right _ (List.mem_map_of_mem hx.1))
        simpa using this
    subst htr0
    have hch := TCT.fin hch
    refine ⟨G, H, L, ⟨hdf, hn, fun d => ?_⟩, hse, hch⟩
    by_cases hw : ∃ j, dstAt l j = some d
    · obtain ⟨j, hj⟩ := hw
      exact hdn j d hj (hall j (by simpa using dstAt_lt hj))
    · rw [hud d (fun k hk => absurd ⟨k, hk⟩ hw), hGn d (fun k hk => hw ⟨k, hk⟩)]
  · -- the start
    have hnone : ∀ i, ¬ done (Array.replicate l.toArray.size false) i := by
      intro i hi
      have : (Array.replicate l.toArray.size false)[i]? = some true := hi
      rw [Array.getElem?_replicate] at this
      split at this <;> simp at this
    refine ⟨fu, ts, fillL l val F0 fr, H0, L0, fun i o _ hd => absurd hd (hnone i), fun x => ⟨fun hx => ⟨hx, hnone _⟩, fun hx => hx.1⟩, hQ1 _ htch, ⟨Hp.le.refl _, fun _ => ⟨[], rfl⟩⟩, hs.drew, hf.defers, hf.size, fun j d _ hd => absurd hd (hnone j), fun d _ => hf.get d, ?_, ?_, ?_⟩
    · intro j hj d hd
      exact fillL_hit ok.dis fr F0 hj hd
    · intro x hx d hd
      exact fillL_none fr F0 (fun j hj hjd => (List.nodup_append.1 ok.nd).2.2 j hj x.1 (List.mem_map_of_mem hx) (ok.dis j x.1 d hjd hd))
    · intro d hno
      exact fillL_none fr F0 (fun j _ => hno j)

end main

end Go.Proofs.YtlghgdgpbnlpmaaGreat
