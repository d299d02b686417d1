/- What is proved: how trees that are arguments are read. Conditions: none. -/
import Derived.Test.YtlghgdgpbnlpmaaGreatBr
import Derived.Test.YtlghgdgpbnlpmaaGreatMTb
import Derived.Deep.Strs
import Derived.Test.YtlghgdgpbnlpmaaGreatTv
namespace Go.Proofs.YtlghgdgpbnlpmaaGreat
open Go.RowKit Go.ChangeShapes Go.WideShapes Go.ChangeAt
set_option linter.unusedVariables false
set_option linter.unusedSimpArgs false
set_option maxRecDepth 100000
section opens
variable {X : Type} {enc : TypeId × Value → X} {P : Program} {w : World} {spare : Nat → Bool} {held : Bool}
theorem sl_of_trod3 {α : Type} {R : DataW X → List Value → α → Prop} {t e : TypeId} {k : Nat} {fuel : Nat} {cs : List Value} {x : DataW X × List MemPlace} (ht : P.underlying t = some (.slice e)) (hk : P.cellsOf e = k)
    (h : DataW.trod enc P w 0 spare held fuel t cs = some x) (hR : ∀ n cs y, SizeOf.sizeOf y.1 < SizeOf.sizeOf x.1 → DataW.trod enc P w 0 spare held n e cs = some y → cs.length = k → ∃ z : α, R y.1 cs z) : ∃ a n c l, cs = [.slice a n c] ∧ Sl (hp w) k (fun cs z => ∃ d, R d cs z) a n c l ∧ (l = [] ∨ ∃ (D : Nat → DataW X) (rest : List (DataW X)), x.1 = .slice ((List.range l.length).map D) rest ∧ ∀ i (h : i < l.length), ∃ cs, R (D i) cs l[i]) := by
  rcases Deep.open_slice ht h with ⟨rfl, _⟩ | ⟨a, len, cap, m, n, D, Pl, rfl, _, hl, hm, hmm, hxe, hx⟩
  · exact ⟨none, 0, 0, [], rfl, Sl.nil, .inl rfl⟩
  have hlm : len ≤ m := by rw [hmm]; split <;> omega
  have hsz : ∀ i, i < len → SizeOf.sizeOf (D i) < SizeOf.sizeOf x.1 := fun i hi => by
    rw [hxe]
    have hmem : D i ∈ (List.range len).map D := List.mem_map_of_mem (List.mem_range.2 hi)
    have := List.sizeOf_lt_of_mem hmem
    simp only [DataW.slice.sizeOf_spec]
    omega
  have each : ∀ i, i < len → ∃ q : List Value × α, q.1.length = k ∧ At (hp w) (a.add (i * k)) q.1 ∧ R (D i) q.1 q.2 := by
    intro i hi
    obtain ⟨cs', h1, h2⟩ := hx i (by omega)
    rw [hk] at h1
    obtain ⟨_, hlen, hcell⟩ := World.cells?_some h1
    obtain ⟨z, hz⟩ := hR n cs' _ (hsz i hi) h2 hlen
    refine ⟨(cs', z), hlen, ?_, hz⟩
    intro j u hu
    have hj : j < k := by rw [← hlen]; exact (List.getElem?_eq_some_iff.1 hu).1
    rw [cellH_hp, hcell j hj]
    exact hu
  by_cases h0 : len = 0
  · subst h0
    exact ⟨some a, 0, cap, [], rfl, ⟨rfl, hl, hm, fun i y hy => by simp at hy⟩, .inl rfl⟩
  have : Inhabited (List Value × α) := ⟨(each 0 (by omega)).choose⟩
  obtain ⟨q, hq⟩ := Deep.choose_lt each
  refine ⟨some a, len, cap, (List.range len).map fun i => (q i).2, rfl, ⟨by simp, hl, hm, fun i y hy => ?_⟩, .inr ⟨D, (List.range (m - len)).map fun j => D (len + j), by rw [hxe]; simp, fun i hi => ?_⟩⟩
  · have hi : i < len := by have := (List.getElem?_eq_some_iff.1 hy).1; simpa using this
    have hy' : y = (q i).2 := by simpa [hi] using hy.symm
    subst hy'
    exact ⟨a, (q i).1, rfl, (hq i hi).1, (hq i hi).2.1, D i, (hq i hi).2.2⟩
  · have hi' : i < len := by simpa using hi
    refine ⟨(q i).1, ?_⟩
    have : ((List.range len).map fun i => (q i).2)[i] = (q i).2 := by simp
    rw [this]
    exact (hq i hi').2.2
theorem weightsAll_mem {e : TypeId} : ∀ {l : List (DataW X)} {d : DataW X}, d ∈ l → ∀ x ∈ d.weights P e, x ∈ DataW.weightsAll P e l
  | y :: r, d, h, x, hx => by
    rw [DataW.weightsAll]
    rcases List.mem_cons.1 h with rfl | h
    · exact List.mem_append_left _ hx
    · exact List.mem_append_right _ (weightsAll_mem h x hx)
end opens
theorem cells_int : Tryz.prog.cellsOf 3 = 1 := by kernel_rfl
theorem cells_int64 : Tryz.prog.cellsOf 2 = 1 := by kernel_rfl
theorem cells_string : Tryz.prog.cellsOf 9 = 1 := by kernel_rfl
theorem cells_dot : Tryz.prog.cellsOf 124 = 2 := by kernel_rfl
theorem cells_ents : Tryz.prog.cellsOf 34 = 1 := by kernel_rfl
theorem cells_kids : Tryz.prog.cellsOf 35 = 1 := by kernel_rfl
theorem cells_tree : Tryz.prog.cellsOf 37 = 2 := by kernel_rfl
theorem cells_ent : Tryz.prog.cellsOf 126 = 4 := by kernel_rfl
theorem cells_kid : Tryz.prog.cellsOf 122 = 3 := by kernel_rfl
section opens
variable {X : Type} {enc : TypeId × Value → X} {w : World} {spare : Nat → Bool} {held : Bool}
theorem bndK_all : ∀ {ks : List (ByteArray × Tr8)}, (∀ x ∈ ks, bndT x.2) → bndK ks
  | [], _ => by simp [bndK]
  | y :: r, h => by
    rw [bndK, bndX_eq]
    exact ⟨h y (List.mem_cons_self ..), bndK_all fun x hx => h x (List.mem_cons_of_mem _ hx)⟩
theorem ent_of {n : Nat} {cs : List Value} {y : DataW X × List MemPlace} (h : DataW.trod enc Tryz.prog w 0 spare held n 126 cs = some y) (hk : cs.length = 4) : ∃ e : Ent8, VL (Env.fz (hp w)) (entE e) cs := by
  obtain ⟨y0, y1, y2, m, -, -, h0, h1, h2⟩ := Go.Deep.trod_struct3 Tryz.underlying126 h
  match cs, hk with
  | [c0, c1, c2, c3], _ =>
    obtain ⟨z0, z1, m', -, -, g0, g1⟩ := trod_struct2 Tryz.underlying124 h0
    obtain ⟨a, ha, -, -⟩ := DataW.trod_int Tryz.underlying3 g0
    obtain ⟨b, hb, -, -⟩ := DataW.trod_int Tryz.underlying2 g1
    obtain ⟨s, hs, -, -⟩ := DataW.trod_string Tryz.underlying9 h1
    obtain ⟨c, hc, -, -⟩ := DataW.trod_int Tryz.underlying2 h2
    simp [cells_int, cells_int64, cells_string, cells_dot] at ha hb hs hc
    subst ha; subst hb; subst hs; subst hc
    refine ⟨((a, b), s, c), ?_⟩
    simp only [entE, i64, VL, V]
    exact ⟨_, _, rfl, rfl, _, _, rfl, rfl, _, _, rfl, rfl, _, _, rfl, rfl, rfl⟩
theorem bytes_ent : Tryz.prog.bytesOf 126 = 40 := by kernel_rfl
theorem bytes_kid : Tryz.prog.bytesOf 122 = 64 := by kernel_rfl
def Wok (t : TypeId) (d : DataW X) : Prop := ∀ x ∈ d.weights Tryz.prog t, x ≤ reachBytes
theorem tree_of : ∀ (N : Nat) {n : Nat} {cs : List Value} {y : DataW X × List MemPlace}, SizeOf.sizeOf y.1 < N → DataW.trod enc Tryz.prog w 0 spare held n 37 cs = some y → cs.length = 2 → ∃ t : Tr8, VL (Env.fz (hp w)) (cellsT t) cs ∧ (Wok 37 y.1 → bndT t)
  | 0, n, cs, y, hN, h, hk => by omega
  | N + 1, n, cs, y, hN, h, hk => by
    obtain ⟨y0, y1, m, hy, -, h0, h1⟩ := trod_struct2 Tryz.underlying37 h
    match cs, hk with
    | [c0, c1], _ =>
      simp [cells_ents, cells_kids] at h0 h1
      have hy1 : SizeOf.sizeOf y1.1 < SizeOf.sizeOf y.1 := by
        rw [hy]
        simp only [DataW.agg.sizeOf_spec, List.cons.sizeOf_spec, List.nil.sizeOf_spec]
        omega
      obtain ⟨a0, n0, k0, l0, e0, hS0, hb0⟩ := sl_of_trod3 (R := fun _ cs e => VL (Env.fz (hp w)) (entE e) cs) (k := 4) Tryz.underlying34 cells_ent h0 (fun n cs y _ h hk => ent_of h hk)
      obtain ⟨a1, n1, k1, l1, e1, hS1, hb1⟩ := sl_of_trod3 (R := fun d cs x => VL (Env.fz (hp w)) (kidRow x) cs ∧ (Wok 122 d → bndT x.2)) (k := 3) Tryz.underlying35 cells_kid h1 (fun n cs z hz h hk => by
        obtain ⟨z0, z1, m', hze, -, g0, g1⟩ := trod_struct2 Tryz.underlying122 h
        match cs, hk with
        | [d0, d1, d2], _ =>
          obtain ⟨s, hs, -, -⟩ := DataW.trod_string Tryz.underlying9 g0
          simp [cells_string, cells_tree] at hs g1
          subst hs
          have hz1 : SizeOf.sizeOf z1.1 < SizeOf.sizeOf z.1 := by
            rw [hze]
            simp only [DataW.agg.sizeOf_spec, List.cons.sizeOf_spec, List.nil.sizeOf_spec]
            omega
          obtain ⟨t, ht, htb⟩ := tree_of N (by omega) g1 rfl
          refine ⟨(s, t), ?_, fun hw => htb fun x hx => hw x ?_⟩
          · simp only [kidRow, VL, V]
            exact ⟨_, _, rfl, rfl, ht⟩
          · rw [hze]
            simp only [DataW.weights, Tryz.underlying122]
            simp [DataW.weightsEach, hx])
      cases e0
      cases e1
      refine ⟨.mk l0 l1, ?_, fun hw => ?_⟩
      · rw [cellsT_eq]
        exact VL2 (V_sl hS0 fun cs x ⟨_, hx⟩ => ⟨rfl, hx⟩) (V_sl hS1 fun cs x ⟨_, hx⟩ => ⟨by rw [kidRow_eq]; rfl, hx.1⟩)
      · have w0 : Wok 34 y0.1 := fun x hx => hw x (by
          rw [hy]
          simp only [DataW.weights, Tryz.underlying37]
          simp [DataW.weightsEach, hx])
        have w1 : Wok 35 y1.1 := fun x hx => hw x (by
          rw [hy]
          simp only [DataW.weights, Tryz.underlying37]
          simp [DataW.weightsEach, hx])
        rw [bndT_eq]
        refine ⟨?_, ?_, ?_⟩
        · rcases hb0 with rfl | ⟨D, rest, hx, -⟩
          · simp [Tr8.es]
          · have := w0 (((List.range l0.length).map D).length + rest.length |> (· * Tryz.prog.bytesOf 126)) (by
              rw [hx]
              simp only [DataW.weights, Tryz.underlying34]
              simp)
            rw [bytes_ent] at this
            simp only [List.length_map, List.length_range, reachBytes] at this
            simp only [Tr8.es]
            omega
        · rcases hb1 with rfl | ⟨D, rest, hx, -⟩
          · simp [Tr8.ks]
          · have := w1 (((List.range l1.length).map D).length + rest.length |> (· * Tryz.prog.bytesOf 122)) (by
              rw [hx]
              simp only [DataW.weights, Tryz.underlying35]
              simp)
            rw [bytes_kid] at this
            simp only [List.length_map, List.length_range, reachBytes] at this
            simp only [Tr8.ks]
            omega
        · simp only [Tr8.ks]
          rcases hb1 with rfl | ⟨D, rest, hx, hD⟩
          · simp [bndK]
          · refine bndK_all fun x hxm => ?_
            obtain ⟨i, hi, rfl⟩ := List.getElem_of_mem hxm
            obtain ⟨cs, -, hb⟩ := hD i hi
            refine hb fun v hv => w1 v ?_
            rw [hx]
            simp only [DataW.weights, Tryz.underlying35]
            refine List.mem_cons_of_mem _ (List.mem_append_left _ (weightsAll_mem (List.mem_map_of_mem (List.mem_range.2 hi)) v hv))
theorem tree_arg {r : Reach} {b0 : Nat} {v : Value} {d : DataW X} {ps : List MemPlace} (hv : Value.okWide Tryz.prog w r b0 37 v) (h : DataW.Trod enc Tryz.prog w 0 spare held 37 v d ps) (hw : Wok 37 d) : ∃ t : Tr8, V (Env.fz (hp w)) (.agg [lstE entE t.es, lstE kidRow t.ks]) v ∧ bndT t := by
  obtain ⟨cs, rfl, hsz⟩ := okWide_struct Tryz.underlying37 hv
  obtain ⟨fuel, hf⟩ := h
  obtain ⟨t, ht, hb⟩ := tree_of _ (Nat.lt_succ_self _) hf (by rw [cells_tree] at hsz; simpa [Value.cells] using hsz)
  refine ⟨t, ?_, hb hw⟩
  rw [cellsT_eq] at ht
  simp only [V]
  exact ⟨_, by simp [Value.cells], ht⟩
end opens
end Go.Proofs.YtlghgdgpbnlpmaaGreat
