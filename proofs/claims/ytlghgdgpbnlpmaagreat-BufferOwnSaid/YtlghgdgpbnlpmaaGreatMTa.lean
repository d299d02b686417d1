/- What is proved: plain trees, and how they are told. Conditions: none. -/
import Derived.Test.YtlghgdgpbnlpmaaGreatEn
namespace Go.Proofs.YtlghgdgpbnlpmaaGreat
set_option linter.unusedVariables false
set_option linter.unusedSimpArgs false
/-- an entry: a dot, a text, a number -/
abbrev Ent8 := (Int × Int) × ByteArray × Int
inductive Tr8 where
  | mk (es : List Ent8) (ks : List (ByteArray × Tr8))
namespace Tr8
def es : Tr8 → List Ent8
  | mk es _ => es
def ks : Tr8 → List (ByteArray × Tr8)
  | mk _ ks => ks
end Tr8
def entE (e : Ent8) : List AV := [i64 e.1.1, i64 e.1.2, .str e.2.1, i64 e.2.2]
mutual
def cellsT : Tr8 → List AV
  | .mk es ks => [lstE entE es, .lst ks.length (kidRows ks)]
def kidRows : List (ByteArray × Tr8) → List (List AV)
  | [] => []
  | x :: r => kidRow x :: kidRows r
def kidRow : ByteArray × Tr8 → List AV
  | (k, t) => .str k :: cellsT t
end
theorem kidRows_eq : ∀ ks : List (ByteArray × Tr8), kidRows ks = ks.map kidRow
  | [] => rfl
  | x :: r => by rw [kidRows, List.map_cons, kidRows_eq r]
theorem cellsT_eq (t : Tr8) : cellsT t = [lstE entE t.es, lstE kidRow t.ks] := by
  cases t with
  | mk es ks => rw [cellsT, kidRows_eq]; rfl
theorem kidRow_eq (x : ByteArray × Tr8) : kidRow x = [.str x.1, lstE entE x.2.es, lstE kidRow x.2.ks] := by
  obtain ⟨k, t⟩ := x
  rw [kidRow, cellsT_eq]
/-! what may be -/
def okDot (x : Int × Int) : Bool := (decide (0 ≤ x.1) && decide (x.1 < 4)) && (decide (1 ≤ x.2) && decide (x.2 ≤ 1099511627776))
def ltDot (a b : Int × Int) : Bool := decide (a.1 < b.1) || (decide (a.1 = b.1) && decide (a.2 < b.2))
def okEnt (e : Ent8) : Bool := okDot e.1 && (decide (e.2.1.size ≤ 30) && (decide (e.2.2 ≤ 1099511627776) && decide (-1099511627776 ≤ e.2.2)))
def okKey (k : ByteArray) : Bool := decide (1 ≤ k.size) && decide (k.size ≤ 30)
def goodE (l : List Ent8) (i : Nat) : Bool :=
  match l[i]? with
  | some e => okEnt e && (decide (i = 0) || (match l[i - 1]? with | some p => ltDot p.1 e.1 | none => false))
  | none => false
def entsOk (l : List Ent8) : Bool := (List.range l.length).all (goodE l)
def emptyT (t : Tr8) : Bool := decide (t.es = []) && decide (t.ks.length = 0)
def ltKey (a b : ByteArray) : Bool := Op.bytesLess a.toList b.toList
def goodK (f : Tr8 → Bool) (ks : List (ByteArray × Tr8)) (i : Nat) : Bool :=
  match ks[i]? with
  | some x => okKey x.1 && ((decide (i = 0) || (match ks[i - 1]? with | some p => ltKey p.1 x.1 | none => false)) && (!emptyT x.2 && f x.2))
  | none => false
def rightT : Nat → Tr8 → Bool
  | 0, _ => false
  | d + 1, t => entsOk t.es && (List.range t.ks.length).all (goodK (rightT d) t.ks)
/-! how many there are, and which dots -/
mutual
def cntT : Tr8 → Nat
  | .mk es ks => es.length + ks.length + cntK ks
def cntK : List (ByteArray × Tr8) → Nat
  | [] => 0
  | x :: r => cntX x + cntK r
def cntX : ByteArray × Tr8 → Nat
  | (_, t) => cntT t
end
theorem cntT_eq (t : Tr8) : cntT t = t.es.length + t.ks.length + cntK t.ks := by cases t; rfl
theorem cntX_eq (x : ByteArray × Tr8) : cntX x = cntT x.2 := by obtain ⟨k, t⟩ := x; rfl
theorem cntK_mem : ∀ {ks : List (ByteArray × Tr8)} {x : ByteArray × Tr8}, x ∈ ks → cntT x.2 ≤ cntK ks
  | y :: r, x, h => by
    rw [cntK, cntX_eq]
    rcases List.mem_cons.1 h with rfl | h
    · omega
    · have := cntK_mem h; omega
theorem cntK_le (ks : List (ByteArray × Tr8)) (i : Nat) : cntK (ks.take i) ≤ cntK ks := by
  have h : ∀ a b : List (ByteArray × Tr8), cntK (a ++ b) = cntK a + cntK b := fun a b => by
    induction a with
    | nil => simp [cntK]
    | cons x a ih => simp only [List.cons_append, cntK, ih]; omega
  have := h (ks.take i) (ks.drop i)
  rw [List.take_append_drop] at this
  omega
mutual
def allT : Tr8 → List (Int × Int)
  | .mk es ks => es.map (fun e => e.1) ++ allK ks
def allK : List (ByteArray × Tr8) → List (Int × Int)
  | [] => []
  | x :: r => allX x ++ allK r
def allX : ByteArray × Tr8 → List (Int × Int)
  | (_, t) => allT t
end
theorem allT_eq (t : Tr8) : allT t = t.es.map (fun e => e.1) ++ allK t.ks := by cases t; rfl
theorem allX_eq (x : ByteArray × Tr8) : allX x = allT x.2 := by obtain ⟨k, t⟩ := x; rfl
theorem allK_append (a b : List (ByteArray × Tr8)) : allK (a ++ b) = allK a ++ allK b := by
  induction a with
  | nil => rfl
  | cons x a ih => simp only [List.cons_append, allK, ih, List.append_assoc]
theorem allK_take {ks : List (ByteArray × Tr8)} {i : Nat} (h : i < ks.length) : allK (ks.take (i + 1)) = allK (ks.take i) ++ allT ks[i].2 := by
  rw [List.take_succ_eq_append_getElem h, allK_append]
  simp [allK, allX_eq]
mutual
theorem allT_len : ∀ t : Tr8, (allT t).length ≤ cntT t
  | .mk es ks => by
    have := allK_len ks
    simp only [allT, cntT, List.length_append, List.length_map]
    omega
theorem allK_len : ∀ ks : List (ByteArray × Tr8), (allK ks).length ≤ cntK ks
  | [] => by simp [allK, cntK]
  | x :: r => by
    have h1 := allX_len x
    have h2 := allK_len r
    simp only [allK, cntK, List.length_append]
    omega
theorem allX_len : ∀ x : ByteArray × Tr8, (allX x).length ≤ cntX x
  | (k, t) => by simpa only [allX, cntX] using allT_len t
end
theorem rightT_kid {d : Nat} {t : Tr8} (h : rightT (d + 1) t = true) {i : Nat} (hi : i < t.ks.length) : goodK (rightT d) t.ks i = true := by
  simp only [rightT, Bool.and_eq_true] at h
  exact List.all_eq_true.1 h.2 i (List.mem_range.2 hi)
theorem goodK_right {f : Tr8 → Bool} {ks : List (ByteArray × Tr8)} {i : Nat} (hi : i < ks.length) (h : goodK f ks i = true) : f ks[i].2 = true := by
  unfold goodK at h
  rw [List.getElem?_eq_getElem hi] at h
  simp only [Bool.and_eq_true] at h
  exact h.2.2.2
end Go.Proofs.YtlghgdgpbnlpmaaGreat
/- What is proved: what the small functions below package tree answer. Conditions: none. -/
namespace Go.Proofs.YtlghgdgpbnlpmaaGreat
open Go.RowKit
set_option linter.unusedVariables false
set_option linter.unusedSimpArgs false
set_option maxRecDepth 100000
set_option maxHeartbeats 16000000
def ordI (a b : Int) : Int := if a < b then -1 else if b < a then 1 else 0
theorem nan_int_a (a : Int) : AFnP Tryz.prog 172 [i64 a] (.bool false) := by
  refine afnp_in ty_ok Tryz.call172 Tryz.func172 rfl rfl (by decide +kernel) ?_
  (try conv=>whnf)<;>repeat'((first|exact sNo|refine sT ?_|refine sF ?_|((first|refine sD ?_ ?_|refine sE ?_ ?_|refine sN ?_ ?_|refine sG ?_ ?_)<;>intro ht<;>(first|(cases ht;done)|skip))|refine wr ?_|refine ix ?_|refine ati ?_|refine row ?_|refine app ?_|refine dr ?_|refine VBs.own ?_|fail)<;>(try conv=>whnf))
  all_goals simp at ht
theorem cmp_int_a (a b : Int) : AFnP Tryz.prog 161 [i64 a, i64 b] (i64 (ordI a b)) := by
  refine afnp_in ty_ok Tryz.call161 Tryz.func161 rfl rfl (by decide +kernel) ?_
  unfold ordI
  have n1 := nan_int_a a
  have n2 := nan_int_a b
  by_cases h1 : a < b
  · rw [if_pos h1]
    (try conv=>whnf)<;>repeat'((first|exact sNo|refine sT ?_|refine sF ?_|((first|refine sD ?_ ?_|refine sE ?_ ?_|refine sN ?_ ?_|refine sG ?_ ?_)<;>intro ht<;>(first|(cases ht;done)|skip))|refine wr ?_|refine ix ?_|refine ati ?_|refine row ?_|refine app ?_|refine dr ?_|refine VBs.own ?_|refine cf n1 ?_|refine cg n1 ?_|refine cz n1 ?_|refine cf n2 ?_|refine cg n2 ?_|refine cz n2 ?_|fail)<;>(try conv=>whnf))
  · rw [if_neg h1]
    by_cases h2 : b < a
    · rw [if_pos h2]
      (try conv=>whnf)<;>repeat'((first|exact sNo|refine sT ?_|refine sF ?_|((first|refine sD ?_ ?_|refine sE ?_ ?_|refine sN ?_ ?_|refine sG ?_ ?_)<;>intro ht<;>(first|(cases ht;done)|skip))|refine wr ?_|refine ix ?_|refine ati ?_|refine row ?_|refine app ?_|refine dr ?_|refine VBs.own ?_|refine cf n1 ?_|refine cg n1 ?_|refine cz n1 ?_|refine cf n2 ?_|refine cg n2 ?_|refine cz n2 ?_|fail)<;>(try conv=>whnf))
    · rw [if_neg h2]
      (try conv=>whnf)<;>repeat'((first|exact sNo|refine sT ?_|refine sF ?_|((first|refine sD ?_ ?_|refine sE ?_ ?_|refine sN ?_ ?_|refine sG ?_ ?_)<;>intro ht<;>(first|(cases ht;done)|skip))|refine wr ?_|refine ix ?_|refine ati ?_|refine row ?_|refine app ?_|refine dr ?_|refine VBs.own ?_|refine cf n1 ?_|refine cg n1 ?_|refine cz n1 ?_|refine cf n2 ?_|refine cg n2 ?_|refine cz n2 ?_|fail)<;>(try conv=>whnf))
theorem nan_int64_a (a : Int) : AFnP Tryz.prog 136 [i64 a] (.bool false) := by
  refine afnp_in ty_ok Tryz.call136 Tryz.func136 rfl rfl (by decide +kernel) ?_
  (try conv=>whnf)<;>repeat'((first|exact sNo|refine sT ?_|refine sF ?_|((first|refine sD ?_ ?_|refine sE ?_ ?_|refine sN ?_ ?_|refine sG ?_ ?_)<;>intro ht<;>(first|(cases ht;done)|skip))|refine wr ?_|refine ix ?_|refine ati ?_|refine row ?_|refine app ?_|refine dr ?_|refine VBs.own ?_|fail)<;>(try conv=>whnf))
  all_goals simp at ht
theorem cmp_int64_a (a b : Int) : AFnP Tryz.prog 115 [i64 a, i64 b] (i64 (ordI a b)) := by
  refine afnp_in ty_ok Tryz.call115 Tryz.func115 rfl rfl (by decide +kernel) ?_
  unfold ordI
  have n1 := nan_int64_a a
  have n2 := nan_int64_a b
  by_cases h1 : a < b
  · rw [if_pos h1]
    (try conv=>whnf)<;>repeat'((first|exact sNo|refine sT ?_|refine sF ?_|((first|refine sD ?_ ?_|refine sE ?_ ?_|refine sN ?_ ?_|refine sG ?_ ?_)<;>intro ht<;>(first|(cases ht;done)|skip))|refine wr ?_|refine ix ?_|refine ati ?_|refine row ?_|refine app ?_|refine dr ?_|refine VBs.own ?_|refine cf n1 ?_|refine cg n1 ?_|refine cz n1 ?_|refine cf n2 ?_|refine cg n2 ?_|refine cz n2 ?_|fail)<;>(try conv=>whnf))
  · rw [if_neg h1]
    by_cases h2 : b < a
    · rw [if_pos h2]
      (try conv=>whnf)<;>repeat'((first|exact sNo|refine sT ?_|refine sF ?_|((first|refine sD ?_ ?_|refine sE ?_ ?_|refine sN ?_ ?_|refine sG ?_ ?_)<;>intro ht<;>(first|(cases ht;done)|skip))|refine wr ?_|refine ix ?_|refine ati ?_|refine row ?_|refine app ?_|refine dr ?_|refine VBs.own ?_|refine cf n1 ?_|refine cg n1 ?_|refine cz n1 ?_|refine cf n2 ?_|refine cg n2 ?_|refine cz n2 ?_|fail)<;>(try conv=>whnf))
    · rw [if_neg h2]
      (try conv=>whnf)<;>repeat'((first|exact sNo|refine sT ?_|refine sF ?_|((first|refine sD ?_ ?_|refine sE ?_ ?_|refine sN ?_ ?_|refine sG ?_ ?_)<;>intro ht<;>(first|(cases ht;done)|skip))|refine wr ?_|refine ix ?_|refine ati ?_|refine row ?_|refine app ?_|refine dr ?_|refine VBs.own ?_|refine cf n1 ?_|refine cg n1 ?_|refine cz n1 ?_|refine cf n2 ?_|refine cg n2 ?_|refine cz n2 ?_|fail)<;>(try conv=>whnf))
theorem or2_a (a b : Int) : AFnP Tryz.prog 160 [.lst 2 [[i64 a], [i64 b]]] (i64 (if a = 0 then b else a)) := by
  refine afnp_in ty_ok Tryz.call160 Tryz.func160 rfl rfl (by decide +kernel) ?_
  (try conv=>whnf)<;>repeat'((first|exact sNo|refine sT ?_|refine sF ?_|((first|refine sD ?_ ?_|refine sE ?_ ?_|refine sN ?_ ?_|refine sG ?_ ?_)<;>intro ht<;>(first|(cases ht;done)|skip))|refine wr ?_|refine ix ?_|refine ati ?_|refine row ?_|refine app ?_|refine dr ?_|refine VBs.own ?_|fail)<;>(try conv=>whnf))
  refine VLp.mk ⟨[], [], [8], fun k vs h => (vs = [i64 0] ∧ h = [] ∧ k = 2) ∨ (vs = [i64 1] ∧ h = [] ∧ k = 1 ∧ a = 0) ∨ (vs = [i64 2] ∧ h = [] ∧ k = 0 ∧ a = 0 ∧ b = 0), 2, ?_⟩
  conv => whnf
  refine ⟨.inl ⟨rfl, rfl, rfl⟩, ?_⟩
  rintro k vs h (⟨rfl, rfl, rfl⟩ | ⟨rfl, rfl, rfl, ha⟩ | ⟨rfl, rfl, rfl, ha, hb⟩)
  · by_cases ha : a = 0
    · (try conv=>whnf)<;>repeat'((first|exact sNo|refine sT ?_|refine sF ?_|((first|refine sD ?_ ?_|refine sE ?_ ?_|refine sN ?_ ?_|refine sG ?_ ?_)<;>intro ht<;>(first|(cases ht;done)|skip))|refine wr ?_|refine ix ?_|refine ati ?_|refine row ?_|refine app ?_|refine dr ?_|refine VBs.own ?_|fail)<;>(try conv=>whnf))
      all_goals exact VRd.mk rfl ⟨1, by omega, .inr (.inl ⟨rfl, rfl, rfl, ha⟩)⟩
    · rw [if_neg ha]
      (try conv=>whnf)<;>repeat'((first|exact sNo|refine sT ?_|refine sF ?_|((first|refine sD ?_ ?_|refine sE ?_ ?_|refine sN ?_ ?_|refine sG ?_ ?_)<;>intro ht<;>(first|(cases ht;done)|skip))|refine wr ?_|refine ix ?_|refine ati ?_|refine row ?_|refine app ?_|refine dr ?_|refine VBs.own ?_|fail)<;>(try conv=>whnf))
  · rw [if_pos ha]
    by_cases hb : b = 0
    · (try conv=>whnf)<;>repeat'((first|exact sNo|refine sT ?_|refine sF ?_|((first|refine sD ?_ ?_|refine sE ?_ ?_|refine sN ?_ ?_|refine sG ?_ ?_)<;>intro ht<;>(first|(cases ht;done)|skip))|refine wr ?_|refine ix ?_|refine ati ?_|refine row ?_|refine app ?_|refine dr ?_|refine VBs.own ?_|fail)<;>(try conv=>whnf))
      all_goals exact VRd.mk rfl ⟨0, by omega, .inr (.inr ⟨rfl, rfl, rfl, ha, hb⟩)⟩
    · (try conv=>whnf)<;>repeat'((first|exact sNo|refine sT ?_|refine sF ?_|((first|refine sD ?_ ?_|refine sE ?_ ?_|refine sN ?_ ?_|refine sG ?_ ?_)<;>intro ht<;>(first|(cases ht;done)|skip))|refine wr ?_|refine ix ?_|refine ati ?_|refine row ?_|refine app ?_|refine dr ?_|refine VBs.own ?_|fail)<;>(try conv=>whnf))
  · rw [if_pos ha, hb]
    (try conv=>whnf)<;>repeat'((first|exact sNo|refine sT ?_|refine sF ?_|((first|refine sD ?_ ?_|refine sE ?_ ?_|refine sN ?_ ?_|refine sG ?_ ?_)<;>intro ht<;>(first|(cases ht;done)|skip))|refine wr ?_|refine ix ?_|refine ati ?_|refine row ?_|refine app ?_|refine dr ?_|refine VBs.own ?_|fail)<;>(try conv=>whnf))
def cmpD (a b : Int × Int) : Int := if ordI a.1 b.1 = 0 then ordI a.2 b.2 else ordI a.1 b.1
theorem cmpD_lt (a b : Int × Int) : cmpD a b < 0 ↔ ltDot a b = true := by
  unfold cmpD ltDot ordI
  simp only [Bool.or_eq_true, Bool.and_eq_true, decide_eq_true_eq]
  repeat' split
  all_goals omega
theorem dcmp_a (a b : Int × Int) : AFnP Tryz.prog 157 [.agg [i64 a.1, i64 a.2], .agg [i64 b.1, i64 b.2]] (i64 (cmpD a b)) := by
  refine afnp_in ty_ok Tryz.call157 Tryz.func157 rfl rfl (by decide +kernel) ?_
  have r1 := cmp_int_a a.1 b.1
  have r2 := cmp_int64_a a.2 b.2
  have r3 := or2_a (ordI a.1 b.1) (ordI a.2 b.2)
  unfold cmpD
  generalize ordI a.1 b.1 = x at *
  generalize ordI a.2 b.2 = y at *
  (try conv=>whnf)<;>repeat'((first|exact sNo|refine sT ?_|refine sF ?_|((first|refine sD ?_ ?_|refine sE ?_ ?_|refine sN ?_ ?_|refine sG ?_ ?_)<;>intro ht<;>(first|(cases ht;done)|skip))|refine wr ?_|refine ix ?_|refine ati ?_|refine row ?_|refine app ?_|refine dr ?_|refine VBs.own ?_|refine cf r1 ?_|refine cg r1 ?_|refine cz r1 ?_|refine cf r2 ?_|refine cg r2 ?_|refine cz r2 ?_|refine cf r3 ?_|refine cg r3 ?_|refine cz r3 ?_|fail)<;>(try conv=>whnf))
theorem dright_a (x : Int × Int) : AFnP Tryz.prog 130 [.agg [i64 x.1, i64 x.2]] (.bool (okDot x)) := by
  refine afnp_in ty_ok Tryz.call130 Tryz.func130 rfl rfl (by decide +kernel) ?_
  (try conv=>whnf)<;>repeat'((first|exact sNo|refine sT ?_|refine sF ?_|((first|refine sD ?_ ?_|refine sE ?_ ?_|refine sN ?_ ?_|refine sG ?_ ?_)<;>intro ht<;>(first|(cases ht;done)|skip))|refine wr ?_|refine ix ?_|refine ati ?_|refine row ?_|refine app ?_|refine dr ?_|refine VBs.own ?_|fail)<;>(try conv=>whnf))
  all_goals (unfold okDot; simp [*])
theorem rdright_a (x : Int × Int) : AFnP Tryz.prog 156 [.agg [i64 x.1, i64 x.2]] (.bool (okDot x)) := by
  refine afnp_in ty_ok Tryz.call156 Tryz.func156 rfl rfl (by decide +kernel) ?_
  (try conv=>whnf)<;>repeat'((first|exact sNo|refine sT ?_|refine sF ?_|((first|refine sD ?_ ?_|refine sE ?_ ?_|refine sN ?_ ?_|refine sG ?_ ?_)<;>intro ht<;>(first|(cases ht;done)|skip))|refine wr ?_|refine ix ?_|refine ati ?_|refine row ?_|refine app ?_|refine dr ?_|refine VBs.own ?_|fail)<;>(try conv=>whnf))
  all_goals (unfold okDot; simp [*])
theorem rless_a (a b : Int × Int) : AFnP Tryz.prog 140 [.agg [i64 a.1, i64 a.2], .agg [i64 b.1, i64 b.2]] (.bool (ltDot a b)) := by
  refine afnp_in ty_ok Tryz.call140 Tryz.func140 rfl rfl (by decide +kernel) ?_
  (try conv=>whnf)<;>repeat'((first|exact sNo|refine sT ?_|refine sF ?_|((first|refine sD ?_ ?_|refine sE ?_ ?_|refine sN ?_ ?_|refine sG ?_ ?_)<;>intro ht<;>(first|(cases ht;done)|skip))|refine wr ?_|refine ix ?_|refine ati ?_|refine row ?_|refine app ?_|refine dr ?_|refine VBs.own ?_|fail)<;>(try conv=>whnf))
  all_goals (refine congrArg AV.bool ?_; unfold ltDot; rw [Bool.eq_iff_iff]; simp only [Bool.or_eq_true, Bool.and_eq_true, decide_eq_true_eq, Bool.false_eq_true, false_iff, true_iff]; omega)
theorem key_a (k : ByteArray) : AFnP Tryz.prog 146 [.str k] (.bool (okKey k)) := by
  refine afnp_in ty_ok Tryz.call146 Tryz.func146 rfl rfl (by decide +kernel) ?_
  (try conv=>whnf)<;>repeat'((first|exact sNo|refine sT ?_|refine sF ?_|((first|refine sD ?_ ?_|refine sE ?_ ?_|refine sN ?_ ?_|refine sG ?_ ?_)<;>intro ht<;>(first|(cases ht;done)|skip))|refine wr ?_|refine ix ?_|refine ati ?_|refine row ?_|refine app ?_|refine dr ?_|refine VBs.own ?_|fail)<;>(try conv=>whnf))
  all_goals (refine congrArg AV.bool ?_; unfold okKey; rw [Bool.eq_iff_iff]; simp only [Bool.or_eq_true, Bool.and_eq_true, decide_eq_true_eq, Bool.false_eq_true, false_iff, true_iff]; omega)
theorem rkey_a (k : ByteArray) : AFnP Tryz.prog 141 [.str k] (.bool (okKey k)) := by
  refine afnp_in ty_ok Tryz.call141 Tryz.func141 rfl rfl (by decide +kernel) ?_
  (try conv=>whnf)<;>repeat'((first|exact sNo|refine sT ?_|refine sF ?_|((first|refine sD ?_ ?_|refine sE ?_ ?_|refine sN ?_ ?_|refine sG ?_ ?_)<;>intro ht<;>(first|(cases ht;done)|skip))|refine wr ?_|refine ix ?_|refine ati ?_|refine row ?_|refine app ?_|refine dr ?_|refine VBs.own ?_|fail)<;>(try conv=>whnf))
  all_goals (refine congrArg AV.bool ?_; unfold okKey; rw [Bool.eq_iff_iff]; simp only [Bool.or_eq_true, Bool.and_eq_true, decide_eq_true_eq, Bool.false_eq_true, false_iff, true_iff]; omega)
theorem cloneE_a (l : List Ent8) (hn : l.length ≤ 1000000) : AFnP Tryz.prog 155 [lstE entE l] (lstE entE l) := by
  refine afnp_in ty_ok Tryz.call155 Tryz.func155 rfl rfl (by decide +kernel) ?_
  (try conv=>whnf)<;>repeat'((first|exact sNo|refine sT ?_|refine sF ?_|((first|refine sD ?_ ?_|refine sE ?_ ?_|refine sN ?_ ?_|refine sG ?_ ?_)<;>intro ht<;>(first|(cases ht;done)|skip))|refine wr ?_|refine ix ?_|refine ati ?_|refine row ?_|refine app ?_|refine dr ?_|refine VBs.own ?_|(refine Or.inr (VNl.mk ?_);intro b hb;cases b)|fail)<;>(try conv=>whnf))
  · simp [lstE]
  · obtain rfl := List.eq_nil_of_length_eq_zero (hb rfl)
    rfl
end Go.Proofs.YtlghgdgpbnlpmaaGreat
/- What is proved: what entries, Empty, right, Right of package tree answer. Conditions: none. -/
namespace Go.Proofs.YtlghgdgpbnlpmaaGreat
open Go.RowKit
set_option linter.unusedVariables false
set_option linter.unusedSimpArgs false
set_option maxRecDepth 100000
set_option maxHeartbeats 16000000
def kidE (x : ByteArray × Tr8) : List AV := [.str x.1, lstE entE x.2.es, lstE kidRow x.2.ks]
theorem kidRow_fun : kidRow = kidE := funext kidRow_eq
theorem goodE_iff {l : List Ent8} {i : Nat} (h : i < l.length) : goodE l i = true ↔ ((okDot l[i].1 = true ∧ l[i].2.1.size ≤ 30 ∧ l[i].2.2 ≤ 1099511627776 ∧ -1099511627776 ≤ l[i].2.2) ∧ (i = 0 ∨ ltDot l[i - 1].1 l[i].1 = true)) := by
  unfold goodE okEnt
  rw [List.getElem?_eq_getElem h, List.getElem?_eq_getElem (show i - 1 < l.length by omega)]
  simp only [Bool.and_eq_true, Bool.or_eq_true, decide_eq_true_eq]
theorem entsOk_true {l : List Ent8} (h : ∀ i, i < l.length → goodE l i = true) : entsOk l = true := by
  unfold entsOk; rw [List.all_eq_true]; intro i hi; exact h i (List.mem_range.1 hi)
theorem entsOk_false {l : List Ent8} {i : Nat} (hi : i < l.length) (h : ¬ goodE l i = true) : entsOk l = false := by
  unfold entsOk; rw [List.all_eq_false]; exact ⟨i, List.mem_range.2 hi, h⟩
theorem entries_a (l : List Ent8) (hn : l.length ≤ 1000000) : AFnP Tryz.prog 145 [lstE entE l] (.bool (entsOk l)) := by
  refine afnp_in ty_ok Tryz.call145 Tryz.func145 rfl rfl (by decide +kernel) ?_
  (try conv=>whnf)<;>repeat'((first|exact sNo|refine sT ?_|refine sF ?_|((first|refine sD ?_ ?_|refine sE ?_ ?_|refine sN ?_ ?_|refine sG ?_ ?_)<;>intro ht<;>(first|(cases ht;done)|skip))|refine wr ?_|refine ix ?_|refine ati ?_|refine row ?_|refine app ?_|refine dr ?_|refine VBs.own ?_|fail)<;>(try conv=>whnf))
  refine VLp.mk ⟨[], [], [7], fun k vs h => ∃ i : Nat, vs = [i64 i] ∧ i ≤ l.length ∧ k = l.length - i ∧ h = [] ∧ ∀ j, j < i → goodE l j = true, l.length, ?_⟩
  conv => whnf
  refine ⟨⟨0, rfl, by omega, by omega, rfl, by omega⟩, ?_⟩
  rintro k vs h ⟨i, rfl, hi, rfl, rfl, hg⟩
  by_cases hin : i < l.length
  · have hgi := goodE_iff hin
    have d1 := dright_a l[i].1
    generalize okDot l[i].1 = od at *
    have fin : ∀ {q : Bool}, (q = false → ¬ goodE l i = true) → q = false → AV.bool false = AV.bool (entsOk l) := fun h1 h2 => congrArg AV.bool (entsOk_false hin (h1 h2)).symm
    rcases Nat.eq_zero_or_pos i with h0 | h0
    · cases od
      · (try conv=>whnf)<;>repeat'((first|exact sNo|refine sT ?_|refine sF ?_|((first|refine sD ?_ ?_|refine sE ?_ ?_|refine sN ?_ ?_|refine sG ?_ ?_)<;>intro ht<;>(first|(cases ht;done)|skip))|refine wr ?_|refine ix ?_|refine ati ?_|refine row ?_|refine app ?_|refine dr ?_|refine VBs.own ?_|refine cf d1 ?_|refine cg d1 ?_|refine cz d1 ?_|fail)<;>(try conv=>whnf))
        all_goals exact congrArg AV.bool (entsOk_false hin fun hh => by have := (hgi.1 hh).1.1; cases this).symm
      · (try conv=>whnf)<;>repeat'((first|exact sNo|refine sT ?_|refine sF ?_|((first|refine sD ?_ ?_|refine sE ?_ ?_|refine sN ?_ ?_|refine sG ?_ ?_)<;>intro ht<;>(first|(cases ht;done)|skip))|refine wr ?_|refine ix ?_|refine ati ?_|refine row ?_|refine app ?_|refine dr ?_|refine VBs.own ?_|refine cf d1 ?_|refine cg d1 ?_|refine cz d1 ?_|fail)<;>(try conv=>whnf))
        all_goals first
          | exact congrArg AV.bool (entsOk_false hin fun hh => by have := (hgi.1 hh).1; omega).symm
          | exact VRd.mk rfl ⟨l.length - (i + 1), by omega, i + 1, rfl, by omega, rfl, rfl, fun j hj => by rcases Nat.lt_succ_iff_lt_or_eq.1 hj with h | rfl; exact hg j h; exact hgi.2 ⟨⟨rfl, by omega, by omega, by omega⟩, .inl h0⟩⟩
    · obtain ⟨i0, hi0⟩ : ∃ j, i = j + 1 := ⟨i - 1, by omega⟩
      have hj : (i : Int) - 1 = (i0 : Int) := by omega
      have hi1 : i - 1 = i0 := by omega
      simp only [hi1] at hgi
      have d2 := dcmp_a (l[i0]'(by omega)).1 l[i].1
      have hlt := cmpD_lt (l[i0]'(by omega)).1 l[i].1
      generalize ltDot (l[i0]'(by omega)).1 l[i].1 = lt at *
      generalize cmpD (l[i0]'(by omega)).1 l[i].1 = c at *
      cases od
      · (try conv=>whnf)<;>repeat'((first|exact sNo|refine sT ?_|refine sF ?_|((first|refine sD ?_ ?_|refine sE ?_ ?_|refine sN ?_ ?_|refine sG ?_ ?_)<;>intro ht<;>(first|(cases ht;done)|skip))|refine wr ?_|refine ix ?_|refine ati ?_|refine row ?_|refine app ?_|refine dr ?_|refine VBs.own ?_|refine cf d1 ?_|refine cg d1 ?_|refine cz d1 ?_|refine cf d2 ?_|refine cg d2 ?_|refine cz d2 ?_|fail)<;>(try conv=>whnf))
        all_goals exact congrArg AV.bool (entsOk_false hin fun hh => by have := (hgi.1 hh).1.1; cases this).symm
      · cases lt
        all_goals simp only [Bool.false_eq_true, iff_false, iff_true] at hlt
        · (try conv=>whnf)<;>repeat'((first|exact sNo|refine sT ?_|refine sF ?_|((first|refine sD ?_ ?_|refine sE ?_ ?_|refine sN ?_ ?_|refine sG ?_ ?_)<;>intro ht<;>(first|(cases ht;done)|skip))|refine wr ?_|refine ix ?_|refine ati ?_|refine row ?_|refine app ?_|refine dr ?_|refine VBs.own ?_|refine cf d1 ?_|refine cg d1 ?_|refine cz d1 ?_|refine cf d2 ?_|refine cg d2 ?_|refine cz d2 ?_|fail)<;>(try conv=>whnf))
          all_goals exact congrArg AV.bool (entsOk_false hin fun hh => by rcases (hgi.1 hh).2 with h | h; omega; cases h).symm
        · (try conv=>whnf)<;>repeat'((first|exact sNo|refine sT ?_|refine sF ?_|((first|refine sD ?_ ?_|refine sE ?_ ?_|refine sN ?_ ?_|refine sG ?_ ?_)<;>intro ht<;>(first|(cases ht;done)|skip))|refine wr ?_|refine ix ?_|refine ati ?_|refine row ?_|refine app ?_|refine dr ?_|refine VBs.own ?_|refine cf d1 ?_|refine cg d1 ?_|refine cz d1 ?_|refine cf d2 ?_|refine cg d2 ?_|refine cz d2 ?_|fail)<;>(try conv=>whnf))
          all_goals first
            | exact congrArg AV.bool (entsOk_false hin fun hh => by have := (hgi.1 hh).1; omega).symm
            | exact VRd.mk rfl ⟨l.length - (i + 1), by omega, i + 1, rfl, by omega, rfl, rfl, fun j hj => by rcases Nat.lt_succ_iff_lt_or_eq.1 hj with h | rfl; exact hg j h; exact hgi.2 ⟨⟨rfl, by omega, by omega, by omega⟩, .inr rfl⟩⟩
  · (try conv=>whnf)<;>repeat'((first|exact sNo|refine sT ?_|refine sF ?_|((first|refine sD ?_ ?_|refine sE ?_ ?_|refine sN ?_ ?_|refine sG ?_ ?_)<;>intro ht<;>(first|(cases ht;done)|skip))|refine wr ?_|refine ix ?_|refine ati ?_|refine row ?_|refine app ?_|refine dr ?_|refine VBs.own ?_|fail)<;>(try conv=>whnf))
    exact congrArg AV.bool (entsOk_true fun j hj => hg j (by omega)).symm
theorem empty_a (t : Tr8) : AFnP Tryz.prog 147 [.agg [lstE entE t.es, lstE kidRow t.ks]] (.bool (emptyT t)) := by
  refine afnp_in ty_ok Tryz.call147 Tryz.func147 rfl rfl (by decide +kernel) ?_
  unfold emptyT
  rcases t with ⟨es, ks⟩
  simp only [Tr8.es, Tr8.ks]
  rcases es with _ | ⟨e, es⟩
  · have hl : ([] : List Ent8).length = 0 := rfl
    by_cases hk : ks.length = 0
    · (try conv=>whnf)<;>repeat'((first|exact sNo|refine sT ?_|refine sF ?_|((first|refine sD ?_ ?_|refine sE ?_ ?_|refine sN ?_ ?_|refine sG ?_ ?_)<;>intro ht<;>(first|(cases ht;done)|skip))|refine wr ?_|refine ix ?_|refine ati ?_|refine row ?_|refine app ?_|refine dr ?_|refine VBs.own ?_|fail)<;>(try conv=>whnf))
      all_goals simp [hk]
    · (try conv=>whnf)<;>repeat'((first|exact sNo|refine sT ?_|refine sF ?_|((first|refine sD ?_ ?_|refine sE ?_ ?_|refine sN ?_ ?_|refine sG ?_ ?_)<;>intro ht<;>(first|(cases ht;done)|skip))|refine wr ?_|refine ix ?_|refine ati ?_|refine row ?_|refine app ?_|refine dr ?_|refine VBs.own ?_|fail)<;>(try conv=>whnf))
      all_goals simp [hk]
  · have hl : (e :: es).length = es.length + 1 := rfl
    (try conv=>whnf)<;>repeat'((first|exact sNo|refine sT ?_|refine sF ?_|((first|refine sD ?_ ?_|refine sE ?_ ?_|refine sN ?_ ?_|refine sG ?_ ?_)<;>intro ht<;>(first|(cases ht;done)|skip))|refine wr ?_|refine ix ?_|refine ati ?_|refine row ?_|refine app ?_|refine dr ?_|refine VBs.own ?_|fail)<;>(try conv=>whnf))
    all_goals simp
theorem rightT_no {d : Nat} {t : Tr8} {i : Nat} (hi : i < t.ks.length) (h : goodK (rightT d) t.ks i = false) : rightT (d + 1) t = false := by
  have : (List.range t.ks.length).all (goodK (rightT d) t.ks) = false := by rw [List.all_eq_false]; exact ⟨i, List.mem_range.2 hi, by rw [h]; decide⟩
  rw [rightT, this, Bool.and_false]
theorem rightT_yes {d : Nat} {t : Tr8} (he : entsOk t.es = true) (h : ∀ i, i < t.ks.length → goodK (rightT d) t.ks i = true) : rightT (d + 1) t = true := by
  have : (List.range t.ks.length).all (goodK (rightT d) t.ks) = true := by rw [List.all_eq_true]; intro i hi; exact h i (List.mem_range.1 hi)
  rw [rightT, he, this]; rfl
theorem goodK_eq {f : Tr8 → Bool} {ks : List (ByteArray × Tr8)} {i : Nat} (h : i < ks.length) : goodK f ks i = (okKey ks[i].1 && ((decide (i = 0) || ltKey ks[i - 1].1 ks[i].1) && (!emptyT ks[i].2 && f ks[i].2))) := by
  unfold goodK
  rw [List.getElem?_eq_getElem h, List.getElem?_eq_getElem (show i - 1 < ks.length by omega)]
theorem right_a : ∀ (d : Nat) (t : Tr8), d ≤ 100 → cntT t ≤ 1000000 → AFnP Tryz.prog 129 [.agg [lstE entE t.es, lstE kidRow t.ks], i64 (d : Int)] (.bool (rightT d t))
  | 0, t, hd, hc => by
    refine afnp_in ty_ok Tryz.call129 Tryz.func129 rfl rfl (by decide +kernel) ?_
    (try conv=>whnf)<;>repeat'((first|exact sNo|refine sT ?_|refine sF ?_|((first|refine sD ?_ ?_|refine sE ?_ ?_|refine sN ?_ ?_|refine sG ?_ ?_)<;>intro ht<;>(first|(cases ht;done)|skip))|refine wr ?_|refine ix ?_|refine ati ?_|refine row ?_|refine app ?_|refine dr ?_|refine VBs.own ?_|fail)<;>(try conv=>whnf))
    all_goals rfl
  | d + 1, t, hd, hc => by
    have ih := right_a d
    obtain ⟨D, hD⟩ : ∃ D : Int, D = ((d + 1 : Nat) : Int) := ⟨_, rfl⟩
    rw [← hD, kidRow_fun]
    refine afnp_in ty_ok Tryz.call129 Tryz.func129 rfl rfl (by decide +kernel) ?_
    have hcnt := cntT_eq t
    have re := entries_a t.es (by omega)
    cases he : entsOk t.es
    · rw [he] at re
      (try conv=>whnf)<;>repeat'((first|exact sNo|refine sT ?_|refine sF ?_|((first|refine sD ?_ ?_|refine sE ?_ ?_|refine sN ?_ ?_|refine sG ?_ ?_)<;>intro ht<;>(first|(cases ht;done)|skip))|refine wr ?_|refine ix ?_|refine ati ?_|refine row ?_|refine app ?_|refine dr ?_|refine VBs.own ?_|refine cf re ?_|refine cg re ?_|refine cz re ?_|fail)<;>(try conv=>whnf))
      all_goals (refine congrArg AV.bool ?_; rw [rightT, he]; rfl)
    · rw [he] at re
      (try conv=>whnf)<;>repeat'((first|exact sNo|refine sT ?_|refine sF ?_|((first|refine sD ?_ ?_|refine sE ?_ ?_|refine sN ?_ ?_|refine sG ?_ ?_)<;>intro ht<;>(first|(cases ht;done)|skip))|refine wr ?_|refine ix ?_|refine ati ?_|refine row ?_|refine app ?_|refine dr ?_|refine VBs.own ?_|refine cf re ?_|refine cg re ?_|refine cz re ?_|fail)<;>(try conv=>whnf))
      refine VLp.mk ⟨[], [2], [18], fun k vs h => ∃ i : Nat, vs = [i64 i] ∧ h = [.blk 0 [lstE entE t.es, lstE kidE t.ks] 37] ∧ i ≤ t.ks.length ∧ k = t.ks.length - i ∧ ∀ j, j < i → goodK (rightT d) t.ks j = true, t.ks.length, ?_⟩
      conv => whnf
      refine ⟨⟨0, rfl, rfl, by omega, by omega, by omega⟩, ?_⟩
      rintro k vs h ⟨i, rfl, rfl, hi, rfl, hg⟩
      by_cases hin : i < t.ks.length
      · have hgi := goodK_eq (f := rightT d) hin
        have hcx := cntK_mem (List.getElem_mem hin)
        have r1 := key_a t.ks[i].1
        have r2 := empty_a t.ks[i].2
        have r3 := ih t.ks[i].2 (by omega) (by omega)
        rw [show (d : Int) = D - 1 by omega] at r3
        generalize okKey t.ks[i].1 = b1 at *
        generalize emptyT t.ks[i].2 = b2 at *
        generalize rightT d t.ks[i].2 = b3 at *
        have no : goodK (rightT d) t.ks i = false → AV.bool false = AV.bool (rightT (d + 1) t) := fun h => congrArg AV.bool (rightT_no hin h).symm
        have yes : goodK (rightT d) t.ks i = true → ∀ j, j < i + 1 → goodK (rightT d) t.ks j = true := fun h j hj => by rcases Nat.lt_succ_iff_lt_or_eq.1 hj with h' | rfl; exact hg j h'; exact h
        rcases Nat.eq_zero_or_pos i with h0 | h0
        · have hz : decide (i = 0) = true := decide_eq_true h0
          rw [hz, Bool.true_or, Bool.true_and] at hgi
          cases b1
          · (try conv=>whnf)<;>repeat'((first|exact sNo|refine sT ?_|refine sF ?_|((first|refine sD ?_ ?_|refine sE ?_ ?_|refine sN ?_ ?_|refine sG ?_ ?_)<;>intro ht<;>(first|(cases ht;done)|skip))|refine wr ?_|refine ix ?_|refine ati ?_|refine row ?_|refine app ?_|refine dr ?_|refine VBs.own ?_|refine cf r1 ?_|refine cg r1 ?_|refine cz r1 ?_|fail)<;>(try conv=>whnf))
            all_goals exact no hgi
          · cases b2
            · cases b3
              · (try conv=>whnf)<;>repeat'((first|exact sNo|refine sT ?_|refine sF ?_|((first|refine sD ?_ ?_|refine sE ?_ ?_|refine sN ?_ ?_|refine sG ?_ ?_)<;>intro ht<;>(first|(cases ht;done)|skip))|refine wr ?_|refine ix ?_|refine ati ?_|refine row ?_|refine app ?_|refine dr ?_|refine VBs.own ?_|refine cf r1 ?_|refine cg r1 ?_|refine cz r1 ?_|refine cf r2 ?_|refine cg r2 ?_|refine cz r2 ?_|refine cf r3 ?_|refine cg r3 ?_|refine cz r3 ?_|fail)<;>(try conv=>whnf))
                all_goals exact no hgi
              · (try conv=>whnf)<;>repeat'((first|exact sNo|refine sT ?_|refine sF ?_|((first|refine sD ?_ ?_|refine sE ?_ ?_|refine sN ?_ ?_|refine sG ?_ ?_)<;>intro ht<;>(first|(cases ht;done)|skip))|refine wr ?_|refine ix ?_|refine ati ?_|refine row ?_|refine app ?_|refine dr ?_|refine VBs.own ?_|refine cf r1 ?_|refine cg r1 ?_|refine cz r1 ?_|refine cf r2 ?_|refine cg r2 ?_|refine cz r2 ?_|refine cf r3 ?_|refine cg r3 ?_|refine cz r3 ?_|fail)<;>(try conv=>whnf))
                all_goals exact VRd.mk rfl ⟨t.ks.length - (i + 1), by omega, i + 1, rfl, rfl, by omega, rfl, yes hgi⟩
            · (try conv=>whnf)<;>repeat'((first|exact sNo|refine sT ?_|refine sF ?_|((first|refine sD ?_ ?_|refine sE ?_ ?_|refine sN ?_ ?_|refine sG ?_ ?_)<;>intro ht<;>(first|(cases ht;done)|skip))|refine wr ?_|refine ix ?_|refine ati ?_|refine row ?_|refine app ?_|refine dr ?_|refine VBs.own ?_|refine cf r1 ?_|refine cg r1 ?_|refine cz r1 ?_|refine cf r2 ?_|refine cg r2 ?_|refine cz r2 ?_|refine cf r3 ?_|refine cg r3 ?_|refine cz r3 ?_|fail)<;>(try conv=>whnf))
              all_goals exact no hgi
        · obtain ⟨i0, hi0⟩ : ∃ j, i = j + 1 := ⟨i - 1, by omega⟩
          have hj : (i : Int) - 1 = (i0 : Int) := by omega
          have hi1 : i - 1 = i0 := by omega
          have hz : decide (i = 0) = false := decide_eq_false (by omega)
          simp only [hi1] at hgi
          rw [hz, Bool.false_or] at hgi
          unfold ltKey at hgi
          cases b1
          · (try conv=>whnf)<;>repeat'((first|exact sNo|refine sT ?_|refine sF ?_|((first|refine sD ?_ ?_|refine sE ?_ ?_|refine sN ?_ ?_|refine sG ?_ ?_)<;>intro ht<;>(first|(cases ht;done)|skip))|refine wr ?_|refine ix ?_|refine ati ?_|refine row ?_|refine app ?_|refine dr ?_|refine VBs.own ?_|refine cf r1 ?_|refine cg r1 ?_|refine cz r1 ?_|fail)<;>(try conv=>whnf))
            all_goals exact no hgi
          · cases hl : Op.bytesLess (t.ks[i0]'(by omega)).1.toList t.ks[i].1.toList
            · rw [hl] at hgi
              have hl2 : (!Op.bytesLess (t.ks[i0]'(by omega)).1.toList t.ks[i].1.toList) = true := by rw [hl]; rfl
              (try conv=>whnf)<;>repeat'((first|exact sNo|refine sT ?_|refine sF ?_|((first|refine sD ?_ ?_|refine sE ?_ ?_|refine sN ?_ ?_|refine sG ?_ ?_)<;>intro ht<;>(first|(cases ht;done)|skip))|refine wr ?_|refine ix ?_|refine ati ?_|refine row ?_|refine app ?_|refine dr ?_|refine VBs.own ?_|refine cf r1 ?_|refine cg r1 ?_|refine cz r1 ?_|fail)<;>(try conv=>whnf))
              all_goals exact no hgi
            · rw [hl] at hgi
              have hl2 : (!Op.bytesLess (t.ks[i0]'(by omega)).1.toList t.ks[i].1.toList) = false := by rw [hl]; rfl
              cases b2
              · cases b3
                · (try conv=>whnf)<;>repeat'((first|exact sNo|refine sT ?_|refine sF ?_|((first|refine sD ?_ ?_|refine sE ?_ ?_|refine sN ?_ ?_|refine sG ?_ ?_)<;>intro ht<;>(first|(cases ht;done)|skip))|refine wr ?_|refine ix ?_|refine ati ?_|refine row ?_|refine app ?_|refine dr ?_|refine VBs.own ?_|refine cf r1 ?_|refine cg r1 ?_|refine cz r1 ?_|refine cf r2 ?_|refine cg r2 ?_|refine cz r2 ?_|refine cf r3 ?_|refine cg r3 ?_|refine cz r3 ?_|fail)<;>(try conv=>whnf))
                  all_goals exact no hgi
                · (try conv=>whnf)<;>repeat'((first|exact sNo|refine sT ?_|refine sF ?_|((first|refine sD ?_ ?_|refine sE ?_ ?_|refine sN ?_ ?_|refine sG ?_ ?_)<;>intro ht<;>(first|(cases ht;done)|skip))|refine wr ?_|refine ix ?_|refine ati ?_|refine row ?_|refine app ?_|refine dr ?_|refine VBs.own ?_|refine cf r1 ?_|refine cg r1 ?_|refine cz r1 ?_|refine cf r2 ?_|refine cg r2 ?_|refine cz r2 ?_|refine cf r3 ?_|refine cg r3 ?_|refine cz r3 ?_|fail)<;>(try conv=>whnf))
                  all_goals exact VRd.mk rfl ⟨t.ks.length - (i + 1), by omega, i + 1, rfl, rfl, by omega, rfl, yes hgi⟩
              · (try conv=>whnf)<;>repeat'((first|exact sNo|refine sT ?_|refine sF ?_|((first|refine sD ?_ ?_|refine sE ?_ ?_|refine sN ?_ ?_|refine sG ?_ ?_)<;>intro ht<;>(first|(cases ht;done)|skip))|refine wr ?_|refine ix ?_|refine ati ?_|refine row ?_|refine app ?_|refine dr ?_|refine VBs.own ?_|refine cf r1 ?_|refine cg r1 ?_|refine cz r1 ?_|refine cf r2 ?_|refine cg r2 ?_|refine cz r2 ?_|refine cf r3 ?_|refine cg r3 ?_|refine cz r3 ?_|fail)<;>(try conv=>whnf))
                all_goals exact no hgi
      · (try conv=>whnf)<;>repeat'((first|exact sNo|refine sT ?_|refine sF ?_|((first|refine sD ?_ ?_|refine sE ?_ ?_|refine sN ?_ ?_|refine sG ?_ ?_)<;>intro ht<;>(first|(cases ht;done)|skip))|refine wr ?_|refine ix ?_|refine ati ?_|refine row ?_|refine app ?_|refine dr ?_|refine VBs.own ?_|fail)<;>(try conv=>whnf))
        exact congrArg AV.bool (rightT_yes he fun j hj => hg j (by omega)).symm
theorem tright_a (t : Tr8) (hc : cntT t ≤ 1000000) : AFnP Tryz.prog 107 [.agg [lstE entE t.es, lstE kidRow t.ks]] (.bool (rightT 5 t)) := by
  refine afnp_in ty_ok Tryz.call107 Tryz.func107 rfl rfl (by decide +kernel) ?_
  have r : AFnP Tryz.prog 129 [.agg [lstE entE t.es, lstE kidRow t.ks], i64 5] (.bool (rightT 5 t)) := right_a 5 t (by omega) hc
  generalize rightT 5 t = b at *
  (try conv=>whnf)<;>repeat'((first|exact sNo|refine sT ?_|refine sF ?_|((first|refine sD ?_ ?_|refine sE ?_ ?_|refine sN ?_ ?_|refine sG ?_ ?_)<;>intro ht<;>(first|(cases ht;done)|skip))|refine wr ?_|refine ix ?_|refine ati ?_|refine row ?_|refine app ?_|refine dr ?_|refine VBs.own ?_|refine cf r ?_|refine cg r ?_|refine cz r ?_|fail)<;>(try conv=>whnf))
  all_goals rw [ht]
end Go.Proofs.YtlghgdgpbnlpmaaGreat
