/- What is proved: how bundles that are arguments are read. Conditions: none. -/
import Derived.Test.YtlghgdgpbnlpmaaGreatTq
import Derived.Test.YtlghgdgpbnlpmaaGreatGka
import Derived.Laws.IdiomArrays
namespace Go.Proofs.YtlghgdgpbnlpmaaGreat
open Go.RowKit Go.ChangeShapes Go.WideShapes Go.ChangeAt
set_option linter.unusedVariables false
set_option linter.unusedSimpArgs false
set_option maxRecDepth 100000
theorem law_own : ownKnob Tryz.prog.godebug = none := by kernel_rfl
theorem law_laid : laidOutB Tryz.prog = true := by kernel_rfl
theorem cells_spn : Tryz.prog.cellsOf 128 = 3 := by kernel_rfl
theorem cells_ctx : Tryz.prog.cellsOf 39 = 1 := by kernel_rfl
theorem cells_vec : Tryz.prog.cellsOf 33 = 4 := by kernel_rfl
theorem cells_caus : Tryz.prog.cellsOf 41 = 3 := by kernel_rfl
theorem cells_bun : Tryz.prog.cellsOf 43 = 10 := by kernel_rfl
section opens
variable {X : Type} {enc : TypeId × Value → X} {w : World} {spare : Nat → Bool} {held : Bool}
theorem trod_struct5 {P : Program} {t : TypeId} {f0 f1 f2 f3 f4 : Field} {fuel : Nat} {cs : List Value} {x : DataW X × List MemPlace} (ht : P.underlying t = some (.struct #[f0, f1, f2, f3, f4])) (h : DataW.trod enc P w 0 spare held fuel t cs = some x) :
    ∃ y0 y1 y2 y3 y4 n, x.1 = .agg [y0.1, y1.1, y2.1, y3.1, y4.1] ∧ cs.length = P.cellsOf t ∧ DataW.trod enc P w 0 spare held n f0.type ((cs.drop f0.offset).take (P.cellsOf f0.type)) = some y0 ∧
      DataW.trod enc P w 0 spare held n f1.type ((cs.drop f1.offset).take (P.cellsOf f1.type)) = some y1 ∧ DataW.trod enc P w 0 spare held n f2.type ((cs.drop f2.offset).take (P.cellsOf f2.type)) = some y2 ∧
      DataW.trod enc P w 0 spare held n f3.type ((cs.drop f3.offset).take (P.cellsOf f3.type)) = some y3 ∧ DataW.trod enc P w 0 spare held n f4.type ((cs.drop f4.offset).take (P.cellsOf f4.type)) = some y4 := by
  obtain ⟨xs, n, _, rfl, hl, hlen, hf⟩ := DataW.trod_struct ht h
  match xs, hlen with
  | [y0, y1, y2, y3, y4], _ => exact ⟨y0, y1, y2, y3, y4, n, by simp, hl, by simpa using hf 0 f0 rfl, by simpa using hf 1 f1 rfl, by simpa using hf 2 f2 rfl, by simpa using hf 3 f3 rfl, by simpa using hf 4 f4 rfl⟩
theorem spn_of {n : Nat} {cs : List Value} {y : DataW X × List MemPlace} (h : DataW.trod enc Tryz.prog w 0 spare held n 128 cs = some y) (hk : cs.length = 3) : ∃ z : Spn, VL (Env.fz (hp w)) (spE z) cs := by
  obtain ⟨y0, y1, y2, m, -, -, h0, h1, h2⟩ := Go.Deep.trod_struct3 Tryz.underlying128 h
  match cs, hk with
  | [c0, c1, c2], _ =>
    obtain ⟨a, ha, -, -⟩ := DataW.trod_int Tryz.underlying3 h0
    obtain ⟨b, hb, -, -⟩ := DataW.trod_int Tryz.underlying2 h1
    obtain ⟨c, hc, -, -⟩ := DataW.trod_int Tryz.underlying2 h2
    simp [cells_int, cells_int64] at ha hb hc
    subst ha; subst hb; subst hc
    refine ⟨(a, b, c), ?_⟩
    simp only [spE, i64, VL, V]
    exact ⟨_, _, rfl, rfl, _, _, rfl, rfl, _, _, rfl, rfl, rfl⟩
def vec4 (a b c e : Int) : Int → Int := fun i => if i = 0 then a else if i = 1 then b else if i = 2 then c else e
theorem vec_of {n : Nat} {cs : List Value} {y : DataW X × List MemPlace} (h : DataW.trod enc Tryz.prog w 0 spare held n 33 cs = some y) (hk : cs.length = 4) : ∃ v : Int → Int, cs = [.int .i64 (v 0), .int .i64 (v 1), .int .i64 (v 2), .int .i64 (v 3)] := by
  match cs, hk with
  | [c0, c1, c2, c3], _ =>
    obtain ⟨y0, y1, y2, y3, m, -, h0, h1, h2, h3⟩ := trod_array4 Tryz.underlying33 cells_int64 h
    obtain ⟨a, ha, -, -⟩ := DataW.trod_int Tryz.underlying2 h0
    obtain ⟨b, hb, -, -⟩ := DataW.trod_int Tryz.underlying2 h1
    obtain ⟨c, hc, -, -⟩ := DataW.trod_int Tryz.underlying2 h2
    obtain ⟨e, he, -, -⟩ := DataW.trod_int Tryz.underlying2 h3
    cases ha; cases hb; cases hc; cases he
    exact ⟨vec4 a b c e, rfl⟩
theorem vec_arg {r : Reach} {b0 : Nat} {v : Value} {d : DataW X} {ps : List MemPlace} (hv : Value.okWide Tryz.prog w r b0 33 v) (h : DataW.Trod enc Tryz.prog w 0 spare held 33 v d ps) : ∃ x : Int → Int, V (Env.fz (hp w)) (vecE x) v := by
  obtain ⟨cs, rfl, hsz⟩ : ∃ cs, v = .agg cs ∧ cs.size = Tryz.prog.cellsOf 33 := by
    simp only [Value.okWide, Tryz.underlying33] at hv
    obtain ⟨cs, h1, h2, _⟩ := hv
    exact ⟨cs, h1, h2⟩
  obtain ⟨fuel, hf⟩ := h
  have hf : DataW.trod enc Tryz.prog w 0 spare held fuel 33 cs.toList = some (d, ps) := by simpa [Value.cells] using hf
  obtain ⟨x, hx⟩ := vec_of hf (by rw [cells_vec] at hsz; simpa using hsz)
  refine ⟨x, ?_⟩
  obtain ⟨l⟩ := cs
  simp only at hx
  subst hx
  simp only [vecE, V]
  refine ⟨_, rfl, ?_⟩
  simp only [i64, VL, V]
  exact ⟨_, _, rfl, rfl, _, _, rfl, rfl, _, _, rfl, rfl, _, _, rfl, rfl, rfl⟩
/-- a slice whose elements are read, with what their weights say -/
theorem sl_open {α : Type} {t e : TypeId} {k : Nat} {f : α → List AV} {Q : α → Prop} (ht : Tryz.prog.underlying t = some (.slice e)) (hk : Tryz.prog.cellsOf e = k) (hf : ∀ z, (f z).length = k) {fuel : Nat} {cs : List Value} {y : DataW X × List MemPlace}
    (h : DataW.trod enc Tryz.prog w 0 spare held fuel t cs = some y) (hR : ∀ n cs y', DataW.trod enc Tryz.prog w 0 spare held n e cs = some y' → cs.length = k → ∃ z, VL (Env.fz (hp w)) (f z) cs ∧ (Wok e y'.1 → Q z)) :
    ∃ (a : Option Addr) (n c : Nat) (l : List α), cs = [.slice a n c] ∧ V (Env.fz (hp w)) (lstE f l) (.slice a n c) ∧ (Wok t y.1 → ∀ z ∈ l, Q z) := by
  obtain ⟨a, n, c, l, h1, h2, h3⟩ := sl_of_trod3 (R := fun d cs z => VL (Env.fz (hp w)) (f z) cs ∧ (Wok e d → Q z)) ht hk h (fun n cs y' _ h hk => hR n cs y' h hk)
  refine ⟨a, n, c, l, h1, V_sl h2 fun cs x ⟨_, hx⟩ => ⟨hf x, hx.1⟩, fun hw z hz => ?_⟩
  rcases h3 with rfl | ⟨D, rest, hx, hD⟩
  · cases hz
  · obtain ⟨i, hi, rfl⟩ := List.getElem_of_mem hz
    obtain ⟨cs', _, hq⟩ := hD i hi
    refine hq fun v hv => hw v ?_
    rw [hx]
    simp only [DataW.weights, ht]
    refine List.mem_cons_of_mem _ (List.mem_append_left _ (weightsAll_mem (List.mem_map_of_mem (List.mem_range.2 hi)) v hv))
theorem ctx_of {n : Nat} {cs : List Value} {y : DataW X × List MemPlace} (h : DataW.trod enc Tryz.prog w 0 spare held n 39 cs = some y) : ∃ (u : Value) (c : List Spn), cs = [u] ∧ V (Env.fz (hp w)) (lstE spE c) u := by
  obtain ⟨a, n, c, l, h1, h2, -⟩ := sl_open (f := spE) (Q := fun _ => True) Tryz.underlying39 cells_spn (fun _ => rfl) h (fun n cs y' h hk => by
    obtain ⟨z, hz⟩ := spn_of h hk
    exact ⟨z, hz, fun _ => trivial⟩)
  exact ⟨_, l, h1, h2⟩
theorem bun_of {n : Nat} {cs : List Value} {y : DataW X × List MemPlace} (h : DataW.trod enc Tryz.prog w 0 spare held n 43 cs = some y) (hk : cs.length = 10) : ∃ b : Bun, VL (Env.fz (hp w)) (bunE b) cs ∧ (Wok 43 y.1 → bndT b.t) := by
  obtain ⟨y0, y1, y2, y3, y4, m, hy, -, h0, h1, h2, h3, h4⟩ := trod_struct5 Tryz.underlying43 h
  match cs, hk with
  | [c0, c1, c2, c3, c4, c5, c6, c7, c8, c9], _ =>
    obtain ⟨a0, e0, -, -⟩ := DataW.trod_int Tryz.underlying3 h0
    obtain ⟨a1, e1, -, -⟩ := DataW.trod_int Tryz.underlying2 h1
    obtain ⟨a2, e2, -, -⟩ := DataW.trod_int Tryz.underlying2 h2
    simp [cells_int, cells_int64, cells_vec, cells_caus] at e0 e1 e2 h3 h4
    obtain ⟨v, e3⟩ := vec_of h3 rfl
    obtain ⟨z0, z1, m', hz, -, g0, g1⟩ := trod_struct2 Tryz.underlying41 h4
    simp [cells_tree, cells_ctx] at g0 g1
    obtain ⟨t, ht, htb⟩ := tree_of _ (Nat.lt_succ_self _) g0 rfl
    obtain ⟨u, c, e4, hc⟩ := ctx_of g1
    simp only [List.cons.injEq, and_true] at e3 e4
    obtain ⟨e5, e6, e7, e8⟩ := e3
    subst e0; subst e1; subst e2; subst e5; subst e6; subst e7; subst e8; subst e4
    refine ⟨⟨a0, a1, a2, v, t, c⟩, ?_, fun hw => htb fun x hx => hw x ?_⟩
    · rw [cellsT_eq] at ht
      simp only [VL] at ht
      obtain ⟨p0, q0, r0, r1, p1, q1, r2, r3, r4⟩ := ht
      cases r0; cases r2
      unfold bunE
      simp only [i64, VL, V]
      exact ⟨_, _, rfl, rfl, _, _, rfl, rfl, _, _, rfl, rfl, _, _, rfl, rfl, _, _, rfl, rfl, _, _, rfl, rfl, _, _, rfl, rfl, _, _, rfl, r1, _, _, rfl, r3, _, _, rfl, hc, rfl⟩
    · rw [hy]
      simp only [DataW.weights, Tryz.underlying43]
      have hz1 := congrArg Prod.fst hz
      simp only at hz1
      simp [DataW.weightsEach, hz1, DataW.weights, Tryz.underlying41, hx]
theorem buns_arg {r : Reach} {b0 : Nat} {v : Value} {d : DataW X} {ps : List MemPlace} (hv : Value.okWide Tryz.prog w r b0 29 v) (h : DataW.Trod enc Tryz.prog w 0 spare held 29 v d ps) (hw : Wok 29 d) : ∃ l : List Bun, V (Env.fz (hp w)) (lstE bunE l) v ∧ ∀ b ∈ l, bndT b.t := by
  obtain ⟨a, n, c, rfl⟩ := okWide_slice Tryz.underlying29 hv
  obtain ⟨fuel, hf⟩ := h
  obtain ⟨a', n', c', l, h1, h2, h3⟩ := sl_open (f := bunE) (Q := fun b => bndT b.t) Tryz.underlying29 cells_bun (fun _ => rfl) hf (fun n cs y' h hk => bun_of h hk)
  have h4 : Value.slice a n c = Value.slice a' n' c' := by simpa [Value.cells] using h1
  cases h4
  exact ⟨l, h2, h3 hw⟩
end opens
end Go.Proofs.YtlghgdgpbnlpmaaGreat
