/- What is proved: from a law's contract ('it answers true, and nothing that was there is written') to the statement's form, for arguments of any type. Conditions: none. -/
import Derived.Test.YtlghgdgpbnlpmaaGreatRows
import Derived.Test.YtlghgdgpbnlpmaaGreatForms
import Derived.WalkKit
import Derived.ProofKit
import Derived.OpenShut
import Derived.JoinedCond
import Derived.Deep.Slices
import Derived.Lib.SmallJoins
namespace Go.Proofs.YtlghgdgpbnlpmaaGreat
open Go.RowKit Go.ChangeShapes Go.WideShapes Go.ChangeAt
set_option linter.unusedVariables false

section bridge
variable {X : Type} {enc : TypeId × Value → X} {P : Program}
theorem trodAll_keeps (hl : laidOutB P = true) {W W' : World} (hb : Below W.heap.size W W') {sp : Nat → Bool} : ∀ {ts : List TypeId} {vs : List Value} {ds : List (DataW X)} {ps : List MemPlace}, ts.all (fun t => P.readableRec t && Nat.blt t P.types.size) = true →
    DataW.TrodAll enc P W 0 (fun _ => true) true ts vs ds ps → (∀ p ∈ ps, p.block < W.heap.size) → (∀ p ∈ ps, sp p.block = true) → DataW.TrodAll enc P W' 0 sp true ts vs ds ps
  | [], vs, ds, ps, _, h, _, _ => by
    obtain ⟨rfl, rfl, rfl⟩ := trodAll_nil h
    exact rfl
  | t :: ts, vs, ds, ps, hr, h, hlt, hs => by
    obtain ⟨v, vs', d, ds', p, q, rfl, rfl, rfl, h1, h2⟩ := trodAll_cons h
    simp only [List.all_cons, Bool.and_eq_true] at hr
    refine ⟨p, q, WideElems.Trod_stays hl hr.1.1 (Nat.le_of_ble_eq_true hr.1.2) h1 (fun x hx => hb.same (hlt x (List.mem_append_left _ hx))) (fun x hx => hs x (List.mem_append_left _ hx)),
      trodAll_keeps hl hb (by simpa using hr.2) h2 (fun x hx => hlt x (List.mem_append_right _ hx)) (fun x hx => hs x (List.mem_append_right _ hx)), rfl⟩
theorem trodAll_length {w : World} {b : Nat} {sp : Nat → Bool} {hd : Bool} : ∀ {ts : List TypeId} {vs : List Value} {ds : List (DataW X)} {ps : List MemPlace}, DataW.TrodAll enc P w b sp hd ts vs ds ps → ds.length = ts.length
  | [], vs, ds, ps, h => by
    obtain ⟨rfl, rfl, rfl⟩ := trodAll_nil h
    rfl
  | t :: ts, vs, ds, ps, h => by
    obtain ⟨v, vs', d, ds', p, q, rfl, rfl, rfl, h1, h2⟩ := trodAll_cons h
    simp [trodAll_length h2]

/-- a law that answers true, and writes nothing that was there, answers as its statement says -/
theorem contract_true {f : Func} {fid : FuncId} {s : ChangeSpec} {tb : TypeId} {n : Nat} (hl : laidOutB P = true) (hv0 : s.vars = []) (hn : f.params.size = n) (hs : ∀ (ds : List (DataW X)), ds.length = n → s.fn X ds = { results := [.lit (.bool true)], args := ds })
    (hp0 : f.params.toList.all (fun t => P.readableRec t && Nat.blt t P.types.size) = true) (hres : f.resultTypes = #[tb]) (hb : P.underlying tb = some .bool)
    {W : World} {args : Array Value} {ds gs : List (DataW X)} {before : List MemPlace} (hW : DataW.Whole enc P f.params.toList s.vars false W args.toList ds gs before) (hlaw : ∃ al : List Value, args = al.toArray ∧ FnP P fid al (hp W) (.bool true)) :
    Calls P fid args W fun e W' => ∃ v, e = .returned v ∧ s.post enc P f false true false false W args v W' := by
  obtain ⟨al, rfl, hf⟩ := hlaw
  have hW' := hW
  obtain ⟨p, q, hA, hV, rfl, hfz, hnd⟩ := hW
  rw [hv0] at hV
  obtain ⟨rfl, rfl⟩ := trodVars_none hV
  have hlen : ds.length = f.params.size := by rw [trodAll_length hA]; simp
  refine (hf.2 W (Sees.enterB W)).mono fun e W' ⟨v, H', O, he, hsees, hv⟩ => ?_
  subst he; subst hv
  have hbelow := Sees.below rfl hsees
  have hlt : ∀ x ∈ p, x.block < W.heap.size := fun x hx => by simpa using hW'.lt x (by simpa using hx)
  refine ⟨_, rfl, ?_⟩
  simp only [List.append_nil] at hW'
  have hfn : s.fn X (ds ++ []) = { results := [.lit (.bool true)], args := ds } := by rw [List.append_nil]; exact hs ds (hlen.trans hn)
  have hkeep : ∀ sp : Nat → Bool, (∀ x ∈ p, sp x.block = true) → DataW.TrodAll enc P W' 0 sp true f.params.toList al ds p := fun sp hsp => trodAll_keeps hl hbelow hp0 (by simpa using hA) hlt hsp
  have hres0 : ∀ (b : Nat) (sp : Nat → Bool) (hd : Bool), DataW.TrodAll enc P W' b sp hd f.resultTypes.toList ((Value.bool true).resultList f.resultTypes.size) [.lit (.bool true)] [] := fun b sp hd => by
    rw [hres]
    exact trodAll_cons_mk (shut_bool hb _) trodAll_mk0
  have hvars0 : ∀ sp : Nat → Bool, DataW.TrodVars enc P W' sp s.vars [] [] := fun sp => by rw [hv0]; rfl
  have hold : ∀ x ∈ p, (fun b => decide (b < W.heap.size)) x.block = true := fun x hx => by simpa using hlt x hx
  have hok : ∀ (j : Nat) (t : TypeId) (r : Value), f.resultTypes[j]? = some t → ((Value.bool true).resultList f.resultTypes.size)[j]? = some r → Value.okWide P W' .any 0 t r := ok_one hres rfl (okWide_bool_mk hb _)
  refine ⟨ds, [], p, [], p, [], hW', by rw [hfn]; exact hres0 _ _ _, by rw [hfn]; simpa using hkeep _ hold, by rw [hfn]; exact hvars0 _, hbelow.frame _, fun _ => ?_⟩
  refine ⟨hok, _, _, ([] ++ p) ++ [], ⟨[] ++ p, [], trodAll_append (by simpa using hkeep _ (fun _ _ => rfl)) (hres0 _ _ _), hvars0 _, rfl, ?_, ?_⟩, ?_⟩
  · intro b off hx
    have hx' : MemPlace.cell b off ∈ p := by simpa using hx
    rw [hbelow.frozen (hlt _ hx')]
    exact hfz b off (by simpa using hx')
  · intro ha
    simpa using hnd ha
  · intro x hx _
    simpa using hx
end bridge

section opens
variable {X : Type} {enc : TypeId × Value → X} {P : Program} {w : World} {spare : Nat → Bool} {held : Bool}
/-- a slice, read whole: its cells stand to a list as R says, if each element's do -/
theorem sl_of_trod {α : Type} {R : List Value → α → Prop} {t e : TypeId} {k : Nat} {fuel : Nat} {cs : List Value} {x : DataW X × List MemPlace} (ht : P.underlying t = some (.slice e)) (hk : P.cellsOf e = k)
    (h : DataW.trod enc P w 0 spare held fuel t cs = some x) (hR : ∀ n cs y, DataW.trod enc P w 0 spare held n e cs = some y → cs.length = k → ∃ z : α, R cs z) : ∃ a n c l, cs = [.slice a n c] ∧ Sl (hp w) k R a n c l := by
  rcases Deep.open_slice ht h with ⟨rfl, _⟩ | ⟨a, len, cap, m, n, D, Pl, rfl, _, hl, hm, hmm, _, hx⟩
  · exact ⟨none, 0, 0, [], rfl, Sl.nil⟩
  have hlm : len ≤ m := by rw [hmm]; split <;> omega
  have each : ∀ i, i < len → ∃ q : List Value × α, q.1.length = k ∧ At (hp w) (a.add (i * k)) q.1 ∧ R q.1 q.2 := by
    intro i hi
    obtain ⟨cs', h1, h2⟩ := hx i (by omega)
    rw [hk] at h1
    obtain ⟨_, hlen, hcell⟩ := World.cells?_some h1
    obtain ⟨z, hz⟩ := hR n cs' _ h2 hlen
    refine ⟨(cs', z), hlen, ?_, hz⟩
    intro j u hu
    have hj : j < k := by rw [← hlen]; exact (List.getElem?_eq_some_iff.1 hu).1
    rw [cellH_hp, hcell j hj]
    exact hu
  by_cases h0 : len = 0
  · subst h0
    exact ⟨some a, 0, cap, [], rfl, rfl, hl, hm, fun i y hy => by simp at hy⟩
  have : Inhabited (List Value × α) := ⟨(each 0 (by omega)).choose⟩
  obtain ⟨q, hq⟩ := Deep.choose_lt each
  refine ⟨some a, len, cap, (List.range len).map fun i => (q i).2, rfl, by simp, hl, hm, fun i y hy => ?_⟩
  have hi : i < len := by have := (List.getElem?_eq_some_iff.1 hy).1; simpa using this
  have hy' : y = (q i).2 := by simpa [hi] using hy.symm
  subst hy'
  exact ⟨a, (q i).1, rfl, (hq i hi).1, (hq i hi).2.1, (hq i hi).2.2⟩
theorem int_of {r : Reach} {b0 : Nat} {t : TypeId} {k : IntKind} {v : Value} {d : DataW X} {ps : List MemPlace} (ht : P.underlying t = some (.int k)) (hv : Value.okWide P w r b0 t v) (h : DataW.Trod enc P w 0 spare held t v d ps) : ∃ i, v = .int k i ∧ (Lit.int k i).wf = true := by
  obtain ⟨i, h1, -, -, h2⟩ := open_int ht hv h
  exact ⟨i, h1, h2⟩
/-- a slice that is an argument -/
theorem sl_arg {α : Type} {r : Reach} {b0 : Nat} {R : List Value → α → Prop} {t e : TypeId} {k : Nat} {v : Value} {d : DataW X} {ps : List MemPlace} (ht : P.underlying t = some (.slice e)) (hk : P.cellsOf e = k) (hv : Value.okWide P w r b0 t v)
    (h : DataW.Trod enc P w 0 spare held t v d ps) (hR : ∀ n cs y, DataW.trod enc P w 0 spare held n e cs = some y → cs.length = k → ∃ z : α, R cs z) : ∃ a n c l, v = .slice a n c ∧ Sl (hp w) k R a n c l := by
  obtain ⟨a, n, c, rfl⟩ := okWide_slice ht hv
  obtain ⟨fuel, hf⟩ := h
  obtain ⟨a', n', c', l, h1, h2⟩ := sl_of_trod ht hk hf hR
  have h3 : Value.slice a n c = Value.slice a' n' c' := by simpa [Value.cells] using h1
  cases h3
  exact ⟨a, n, c, l, rfl, h2⟩
end opens
end Go.Proofs.YtlghgdgpbnlpmaaGreat
