/- What is proved: plain trees, and how they are told. Conditions: none. -/
import Derived.Test.YtailblpjmgabjaaEn
namespace Go.Proofs.Ytailblpjmgabjaa
set_option linter.unusedVariables false
set_option linter.unusedSimpArgs false
/-- an entry: a dot, a text, a number -/
abbrev Ent8 := (Int × Int) × ByteArray × Int
inductive Tr8 where
  | mk (es : List Ent8) (ks : List (ByteArray × Tr8))
namespace Tr8
def es : Tr8 → List Ent8
  | mk es _ => es
def ks : Tr8 → List (ByteArray × Tr8)
  | mk _ ks => ks
end Tr8
def entE (e : Ent8) : List AV := [i64 e.1.1, i64 e.1.2, .str e.2.1, i64 e.2.2]
mutual
def cellsT : Tr8 → List AV
  | .mk es ks => [lstE entE es, .lst ks.length (kidRows ks)]
def kidRows : List (ByteArray × Tr8) → List (List AV)
  | [] => []
  | x :: r => kidRow x :: kidRows r
def kidRow : ByteArray × Tr8 → List AV
  | (k, t) => .str k :: cellsT t
end
theorem kidRows_eq : ∀ ks : List (ByteArray × Tr8), kidRows ks = ks.map kidRow
  | [] => rfl
  | x :: r => by rw [kidRows, List.map_cons, kidRows_eq r]
theorem cellsT_eq (t : Tr8) : cellsT t = [lstE entE t.es, lstE kidRow t.ks] := by
  cases t with
  | mk es ks => rw [cellsT, kidRows_eq]; rfl
theorem kidRow_eq (x : ByteArray × Tr8) : kidRow x = [.str x.1, lstE entE x.2.es, lstE kidRow x.2.ks] := by
  obtain ⟨k, t⟩ := x
  rw [kidRow, cellsT_eq]
def treeE (t : Tr8) : AV := .agg [lstE entE t.es, lstE kidRow t.ks]
/-! what may be -/
def okDot (x : Int × Int) : Bool := (decide (0 ≤ x.1) && decide (x.1 < 4)) && (decide (1 ≤ x.2) && decide (x.2 ≤ 1099511627776))
theorem okDot_iff {x : Int × Int} : okDot x = true ↔ (0 ≤ x.1 ∧ x.1 < 4) ∧ 1 ≤ x.2 ∧ x.2 ≤ 1099511627776 := by unfold okDot; simp only [Bool.and_eq_true, decide_eq_true_eq]
def ltDot (a b : Int × Int) : Bool := decide (a.1 < b.1) || (decide (a.1 = b.1) && decide (a.2 < b.2))
def okEnt (e : Ent8) : Bool := okDot e.1 && (decide (e.2.1.size ≤ 30) && (decide (e.2.2 ≤ 1099511627776) && decide (-1099511627776 ≤ e.2.2)))
def okKey (k : ByteArray) : Bool := decide (1 ≤ k.size) && decide (k.size ≤ 30)
def goodE (l : List Ent8) (i : Nat) : Bool :=
  match l[i]? with
  | some e => okEnt e && (decide (i = 0) || (match l[i - 1]? with | some p => ltDot p.1 e.1 | none => false))
  | none => false
def entsOk (l : List Ent8) : Bool := (List.range l.length).all (goodE l)
def emptyT (t : Tr8) : Bool := decide (t.es = []) && decide (t.ks.length = 0)
def ltKey (a b : ByteArray) : Bool := Op.bytesLess a.toList b.toList
def goodK (f : Tr8 → Bool) (ks : List (ByteArray × Tr8)) (i : Nat) : Bool :=
  match ks[i]? with
  | some x => okKey x.1 && ((decide (i = 0) || (match ks[i - 1]? with | some p => ltKey p.1 x.1 | none => false)) && (!emptyT x.2 && f x.2))
  | none => false
def rightT : Nat → Tr8 → Bool
  | 0, _ => false
  | d + 1, t => entsOk t.es && (List.range t.ks.length).all (goodK (rightT d) t.ks)
/-! how many there are, and which dots -/
mutual
def cntT : Tr8 → Nat
  | .mk es ks => es.length + ks.length + cntK ks
def cntK : List (ByteArray × Tr8) → Nat
  | [] => 0
  | x :: r => cntX x + cntK r
def cntX : ByteArray × Tr8 → Nat
  | (_, t) => cntT t
end
theorem cntT_eq (t : Tr8) : cntT t = t.es.length + t.ks.length + cntK t.ks := by cases t; rfl
theorem cntX_eq (x : ByteArray × Tr8) : cntX x = cntT x.2 := by obtain ⟨k, t⟩ := x; rfl
theorem cntK_mem : ∀ {ks : List (ByteArray × Tr8)} {x : ByteArray × Tr8}, x ∈ ks → cntT x.2 ≤ cntK ks
  | y :: r, x, h => by
    rw [cntK, cntX_eq]
    rcases List.mem_cons.1 h with rfl | h
    · omega
    · have := cntK_mem h; omega
theorem cntK_take : ∀ {ks : List (ByteArray × Tr8)} {i : Nat} (h : i < ks.length), cntK (ks.take (i + 1)) = cntK (ks.take i) + cntT ks[i].2
  | y :: r, 0, h => by simp [cntK, cntX_eq]
  | y :: r, i + 1, h => by
    have := cntK_take (ks := r) (i := i) (by simpa using h)
    simp only [List.take_succ_cons, cntK, List.getElem_cons_succ]
    omega
theorem cntK_le (ks : List (ByteArray × Tr8)) (i : Nat) : cntK (ks.take i) ≤ cntK ks := by
  have h : ∀ a b : List (ByteArray × Tr8), cntK (a ++ b) = cntK a + cntK b := fun a b => by
    induction a with
    | nil => simp [cntK]
    | cons x a ih => simp only [List.cons_append, cntK, ih]; omega
  have := h (ks.take i) (ks.drop i)
  rw [List.take_append_drop] at this
  omega
mutual
def allT : Tr8 → List (Int × Int)
  | .mk es ks => es.map (fun e => e.1) ++ allK ks
def allK : List (ByteArray × Tr8) → List (Int × Int)
  | [] => []
  | x :: r => allX x ++ allK r
def allX : ByteArray × Tr8 → List (Int × Int)
  | (_, t) => allT t
end
theorem allT_eq (t : Tr8) : allT t = t.es.map (fun e => e.1) ++ allK t.ks := by cases t; rfl
theorem allX_eq (x : ByteArray × Tr8) : allX x = allT x.2 := by obtain ⟨k, t⟩ := x; rfl
theorem allK_append (a b : List (ByteArray × Tr8)) : allK (a ++ b) = allK a ++ allK b := by
  induction a with
  | nil => rfl
  | cons x a ih => simp only [List.cons_append, allK, ih, List.append_assoc]
theorem allK_take {ks : List (ByteArray × Tr8)} {i : Nat} (h : i < ks.length) : allK (ks.take (i + 1)) = allK (ks.take i) ++ allT ks[i].2 := by
  rw [List.take_succ_eq_append_getElem h, allK_append]
  simp [allK, allX_eq]
mutual
theorem allT_len : ∀ t : Tr8, (allT t).length ≤ cntT t
  | .mk es ks => by
    have := allK_len ks
    simp only [allT, cntT, List.length_append, List.length_map]
    omega
theorem allK_len : ∀ ks : List (ByteArray × Tr8), (allK ks).length ≤ cntK ks
  | [] => by simp [allK, cntK]
  | x :: r => by
    have h1 := allX_len x
    have h2 := allK_len r
    simp only [allK, cntK, List.length_append]
    omega
theorem allX_len : ∀ x : ByteArray × Tr8, (allX x).length ≤ cntX x
  | (k, t) => by simpa only [allX, cntX] using allT_len t
end
theorem rightT_kid {d : Nat} {t : Tr8} (h : rightT (d + 1) t = true) {i : Nat} (hi : i < t.ks.length) : goodK (rightT d) t.ks i = true := by
  simp only [rightT, Bool.and_eq_true] at h
  exact List.all_eq_true.1 h.2 i (List.mem_range.2 hi)
theorem goodK_right {f : Tr8 → Bool} {ks : List (ByteArray × Tr8)} {i : Nat} (hi : i < ks.length) (h : goodK f ks i = true) : f ks[i].2 = true := by
  unfold goodK at h
  rw [List.getElem?_eq_getElem hi] at h
  simp only [Bool.and_eq_true] at h
  exact h.2.2.2
end Go.Proofs.Ytailblpjmgabjaa
