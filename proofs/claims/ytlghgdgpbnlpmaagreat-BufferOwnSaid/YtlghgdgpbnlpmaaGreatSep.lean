/- What is proved: the rules of a small separation calculus over the kit's walk (frames as functions of slots, a frozen part of the heap, owned pieces). Conditions: none. -/
import Derived.Test.YtlghgdgpbnlpmaaGreatRows
import Derived.WalkKit
import Derived.WalkSpells
import Derived.WalkLawsBesides
import Derived.Maps.AppendAt
namespace Go.Proofs.YtlghgdgpbnlpmaaGreat
open Go.RowKit

abbrev Slots := Nat → Value
abbrev Hp := Nat → Option Obj

def upd (F : Slots) (d : Nat) (v : Value) : Slots := fun t => bif Nat.beq t d then v else F t
def memb : List Nat → Nat → Bool
  | [], _ => false
  | x :: r, t => Nat.beq t x || memb r t
def mask (ms : List Nat) (F G : Slots) : Slots := fun t => bif memb ms t then G t else F t
def updL (F : Slots) : List Nat → List Value → Slots
  | s :: ss, v :: vs => upd (updL F ss vs) s v
  | _, _ => F
def ev (F : Slots) : Operand → Value
  | .tmp t => F t
  | .const v => v
  | .global g => .pointer (some ⟨g, 0, none⟩)
  | .func f => .func (.func f) #[] #[]

theorem upd_same (F : Slots) (d : Nat) (v : Value) : upd F d v d = v := by simp [upd]
theorem upd_other (F : Slots) {d t : Nat} (v : Value) (h : t ≠ d) : upd F d v t = F t := by
  have : Nat.beq t d = false := by
    cases hb : Nat.beq t d
    · rfl
    · exact absurd (Nat.eq_of_beq_eq_true hb) h
  simp [upd, this]

structure Fr (a : Act) (F : Slots) (n : Nat) : Prop where
  defers : a.defers = []
  size : a.tmps.size = n
  get : ∀ t, a.tmps.getD t undef = F t

theorem Fr.eval {a : Act} {F : Slots} {n : Nat} (h : Fr a F n) : a.eval = ev F := by
  funext x
  cases x with
  | tmp t => exact h.get t
  | const v => rfl
  | global g => rfl
  | func f => rfl
theorem Fr.put {a : Act} {F : Slots} {n d : Nat} (h : Fr a F n) (hd : d < n) (v : Value) : Fr (a.put (some d) v) (upd F d v) n := by
  refine ⟨h.defers, by simp [Act.put, h.size], fun t => ?_⟩
  have hg := h.get t
  have hs := h.size
  by_cases e : t = d
  · subst e
    rw [upd_same]
    simp [Act.put, Array.getD_eq_getD_getElem?, hs, hd]
  · rw [upd_other _ _ e, ← hg]
    simp only [Act.put, Array.getD_eq_getD_getElem?, Array.getElem?_setIfInBounds]
    rw [if_neg (Ne.symm e)]
theorem Fr.skip {a : Act} {F : Slots} {n : Nat} (h : Fr a F n) (v : Value) : Fr (a.put none v) F n := h

/-! pieces of memory that a walk owns -/
/-- a slice's rows, as data -/
structure RowD where
  v : Value
  E : TypeId
  k : Nat
  rows : List (List Value)
def RowD.hasB (r : RowD) (b : Nat) : Prop := r.v.ownBlock = some b
def RowD.holds (w : World) (r : RowD) : Prop := w.ownsRow 0 r.E r.k r.v r.rows.length r.rows.flatten ∧ ∀ x ∈ r.rows, x.length = r.k
def apartR (r s : RowD) : Prop := ∀ b, r.hasB b → ¬ s.hasB b
inductive Piece where
  | blk (b : Nat) (cs : List Value) (T : TypeId)
  | row (v : Value) (E : TypeId) (k : Nat) (rows : List (List Value))
  /-- many rows at once -/
  | bag (rs : List RowD)
def Piece.hasB : Piece → Nat → Prop
  | .blk b' _ _, b => b' = b
  | .row v _ _ _, b => v.ownBlock = some b
  | .bag rs, b => ∃ r ∈ rs, r.hasB b
def Piece.holds (w : World) : Piece → Prop
  | .blk b cs T => w.heap[b]? = some (.cells cs.toArray T (0, 0))
  | .row v E k rows => w.ownsRow 0 E k v rows.length rows.flatten ∧ ∀ r ∈ rows, r.length = k
  | .bag rs => (∀ r ∈ rs, r.holds w) ∧ rs.Pairwise apartR
def apartP (p q : Piece) : Prop := ∀ b, p.hasB b → ¬ q.hasB b

abbrev hp (w : World) : Hp := fun b => w.heap[b]?
def Hp.le (H H' : Hp) : Prop := ∀ b o, H b = some o → H' b = some o
theorem Hp.le.refl (H : Hp) : Hp.le H H := fun _ _ h => h
theorem Hp.le.trans {H H' H'' : Hp} (h : Hp.le H H') (k : Hp.le H' H'') : Hp.le H H'' := fun b o x => k b o (h b o x)

structure Ent where
  w : World
  H : Hp
  own : Nat → Prop

structure Sees (e : Ent) (H : Hp) (L : List Piece) (w : World) : Prop where
  os : w.os = e.w.os
  tape : w.tape = e.w.tape
  output : w.output = e.w.output
  size : e.w.heap.size ≤ w.heap.size
  keep : ∀ b, b < e.w.heap.size → ¬ e.own b → w.heap[b]? = e.w.heap[b]?
  le0 : Hp.le e.H H
  le : Hp.le H (hp w)
  new : ∀ b, H b ≠ none → e.H b ≠ none ∨ e.own b ∨ e.w.heap.size ≤ b
  holds : ∀ p ∈ L, p.holds w
  apart : ∀ p ∈ L, ∀ b, p.hasB b → H b = none
  pw : L.Pairwise apartP
  from_ : ∀ p ∈ L, ∀ b, p.hasB b → e.own b ∨ e.w.heap.size ≤ b

theorem Piece.lt {p : Piece} {w : World} (h : p.holds w) {b : Nat} (hb : p.hasB b) : b < w.heap.size := by
  cases p with
  | blk b' cs T =>
    simp only [Piece.hasB] at hb
    subst hb
    exact (Array.getElem?_eq_some_iff.1 h).1
  | row v E k rows => exact (World.ownsRow.lt h.1 b hb).2
  | bag rs =>
    obtain ⟨r, hr, hb⟩ := hb
    exact (World.ownsRow.lt (h.1 r hr).1 b hb).2
theorem RowD.keep {r : RowD} {w w' : World} (h : r.holds w) (hk : ∀ b, r.hasB b → w'.heap[b]? = w.heap[b]?) : r.holds w' := by
  obtain ⟨v, E, k, rows⟩ := r
  refine ⟨⟨h.1.1, ?_⟩, h.2⟩
  rcases h.1.2 with hn | ⟨g, cap, cur, hv, hb, hgg, rest⟩
  · exact .inl hn
  · dsimp only at hv
    subst hv
    exact .inr ⟨g, cap, cur, rfl, hb, (hk g rfl).trans hgg, rest⟩
theorem Piece.keep {p : Piece} {w w' : World} (h : p.holds w) (hk : ∀ b, p.hasB b → w'.heap[b]? = w.heap[b]?) : p.holds w' := by
  cases p with
  | blk b cs T => exact (hk b rfl).trans h
  | row v E k rows =>
    refine ⟨⟨h.1.1, ?_⟩, h.2⟩
    rcases h.1.2 with hn | ⟨g, cap, cur, rfl, hb, hgg, rest⟩
    · exact .inl hn
    · exact .inr ⟨g, cap, cur, rfl, hb, (hk g rfl).trans hgg, rest⟩
  | bag rs => exact ⟨fun r hr => RowD.keep (h.1 r hr) fun b hb => hk b ⟨r, hr, hb⟩, h.2⟩
theorem Hp.lt {H : Hp} {w : World} (h : Hp.le H (hp w)) {b : Nat} (hb : H b ≠ none) : b < w.heap.size := by
  cases ho : H b with
  | none => exact absurd ho hb
  | some o => exact (Array.getElem?_eq_some_iff.1 (h b o ho)).1

namespace Sees
variable {e : Ent} {H : Hp} {L : List Piece} {w : World}
theorem drew (h : Sees e H L w) : Sees e H L w.drew := ⟨h.os, h.tape, h.output, h.size, h.keep, h.le0, h.le, h.new, h.holds, h.apart, h.pw, h.from_⟩
theorem drewN (h : Sees e H L w) (n : Nat) : Sees e H L (w.drewN n) := ⟨h.os, h.tape, h.output, h.size, h.keep, h.le0, h.le, h.new, h.holds, h.apart, h.pw, h.from_⟩
/-- a world in which every block stands -/
theorem ext (h : Sees e H L w) {w' : World} (hb : Below w.heap.size w w') : Sees e H L w' where
  os := hb.os.trans h.os
  tape := hb.tape.trans h.tape
  output := hb.output.trans h.output
  size := Nat.le_trans h.size hb.size
  keep := fun b hlt ho => (hb.block b (Nat.lt_of_lt_of_le hlt h.size)).trans (h.keep b hlt ho)
  le0 := h.le0
  le := fun b o ho => (hb.block b (Hp.lt h.le (by rw [ho]; simp))).trans (h.le b o ho)
  new := h.new
  holds := fun p hp => Piece.keep (h.holds p hp) fun b hbb => hb.block b (Piece.lt (h.holds p hp) hbb)
  apart := h.apart
  pw := h.pw
  from_ := h.from_
/-- a new block, owned -/
theorem alloc (h : Sees e H L w) (cs : Array Value) (T : TypeId) : Sees e H (.blk w.heap.size cs.toList T :: L) (w.alloc (.cells cs T)) := by
  have h1 := h.ext (w' := w.alloc (.cells cs T)) ((Below.refl _ _).alloc (Nat.le_refl _) _)
  refine ⟨h1.os, h1.tape, h1.output, h1.size, h1.keep, h1.le0, h1.le, h1.new, ?_, ?_, ?_, ?_⟩
  · intro p hp
    rcases List.mem_cons.1 hp with rfl | hp
    · simp only [Piece.holds]
      exact heap_alloc_new w _
    · exact h1.holds p hp
  · intro p hp b hb
    rcases List.mem_cons.1 hp with rfl | hp
    · simp only [Piece.hasB] at hb
      subst hb
      cases ho : H w.heap.size with
      | none => rfl
      | some o => exact absurd (Hp.lt h.le (b := w.heap.size) (by rw [ho]; simp)) (Nat.lt_irrefl _)
    · exact h1.apart p hp b hb
  · refine List.pairwise_cons.2 ⟨fun q hq b hb hqb => ?_, h1.pw⟩
    simp only [Piece.hasB] at hb
    subst hb
    exact absurd (Piece.lt (h.holds q hq) hqb) (Nat.lt_irrefl _)
  · intro p hp b hb
    rcases List.mem_cons.1 hp with rfl | hp
    · simp only [Piece.hasB] at hb
      subst hb
      exact .inr h.size
    · exact h1.from_ p hp b hb
/-- fewer pieces -/
theorem sub (h : Sees e H L w) {L' : List Piece} (hs : L'.Sublist L) : Sees e H L' w :=
  ⟨h.os, h.tape, h.output, h.size, h.keep, h.le0, h.le, h.new, fun p hp => h.holds p (hs.subset hp), fun p hp => h.apart p (hs.subset hp), h.pw.sublist hs, fun p hp => h.from_ p (hs.subset hp)⟩
end Sees

theorem apartP.symm {p q : Piece} (h : apartP p q) : apartP q p := fun b hq hp => h b hp hq
theorem pairwise_at {L : List Piece} (h : L.Pairwise apartP) {i j : Nat} {p q : Piece} (hi : L[i]? = some p) (hj : L[j]? = some q) (hne : i ≠ j) : apartP p q := by
  obtain ⟨hi1, rfl⟩ := List.getElem?_eq_some_iff.1 hi
  obtain ⟨hj1, rfl⟩ := List.getElem?_eq_some_iff.1 hj
  rcases Nat.lt_or_gt_of_ne hne with hlt | hlt
  · exact List.pairwise_iff_getElem.1 h i j hi1 hj1 hlt
  · exact (List.pairwise_iff_getElem.1 h j i hj1 hi1 hlt).symm

/-- one owned piece changes (in its own block, or into a new one); all else stands -/
theorem Sees.change {e : Ent} {H : Hp} {L : List Piece} {w w' : World} (h : Sees e H L w) {i : Nat} {p q : Piece} (hi : L[i]? = some p)
    (os : w'.os = w.os) (tape : w'.tape = w.tape) (output : w'.output = w.output) (size : w.heap.size ≤ w'.heap.size)
    (block : ∀ b, b < w.heap.size → ¬ p.hasB b → w'.heap[b]? = w.heap[b]?) (hq : q.holds w') (hat : ∀ b, q.hasB b → p.hasB b ∨ w.heap.size ≤ b) : Sees e H (L.set i q) w' := by
  obtain ⟨hi1, hi2⟩ := List.getElem?_eq_some_iff.1 hi
  have hpm : p ∈ L := hi2 ▸ List.getElem_mem hi1
  have hmem : ∀ r ∈ L.set i q, r = q ∨ ∃ j, j ≠ i ∧ L[j]? = some r := by
    intro r hr
    obtain ⟨j, hj, hjr⟩ := List.getElem_of_mem hr
    rw [List.getElem_set] at hjr
    split at hjr
    · exact .inl hjr.symm
    · rename_i hne
      rw [List.length_set] at hj
      exact .inr ⟨j, fun hji => hne hji.symm, by rw [List.getElem?_eq_getElem hj, hjr]⟩
  have hoth : ∀ j r, j ≠ i → L[j]? = some r → ∀ b, r.hasB b → w'.heap[b]? = w.heap[b]? := by
    intro j r hne hj b hb
    have hrm : r ∈ L := List.mem_of_getElem? hj
    exact block b (Piece.lt (h.holds r hrm) hb) (pairwise_at h.pw hj hi hne b hb)
  refine ⟨os.trans h.os, tape.trans h.tape, output.trans h.output, Nat.le_trans h.size size, ?_, h.le0, ?_, h.new, ?_, ?_, ?_, ?_⟩
  · intro b hlt ho
    refine (block b (Nat.lt_of_lt_of_le hlt h.size) fun hb => ?_).trans (h.keep b hlt ho)
    rcases h.from_ p hpm b hb with h1 | h1
    · exact ho h1
    · omega
  · intro b o ho
    refine (block b (Hp.lt h.le (by rw [ho]; simp)) fun hb => ?_).trans (h.le b o ho)
    rw [h.apart p hpm b hb] at ho
    cases ho
  · intro r hr
    rcases hmem r hr with rfl | ⟨j, hne, hj⟩
    · exact hq
    · exact Piece.keep (h.holds r (List.mem_of_getElem? hj)) (hoth j r hne hj)
  · intro r hr b hb
    rcases hmem r hr with rfl | ⟨j, hne, hj⟩
    · rcases hat b hb with h1 | h1
      · exact h.apart p hpm b h1
      · cases ho : H b with
        | none => rfl
        | some o => exact absurd (Hp.lt h.le (b := b) (by rw [ho]; simp)) (by omega)
    · exact h.apart r (List.mem_of_getElem? hj) b hb
  · rw [List.pairwise_iff_getElem]
    intro j k hj hk hjk
    rw [List.length_set] at hj hk
    have key : ∀ m r, m ≠ i → L[m]? = some r → apartP q r := by
      intro m r hne hm b hb hrb
      rcases hat b hb with h1 | h1
      · exact pairwise_at h.pw hi hm (Ne.symm hne) b h1 hrb
      · exact absurd (Piece.lt (h.holds r (List.mem_of_getElem? hm)) hrb) (by omega)
    rw [List.getElem_set, List.getElem_set]
    split
    · split
      · omega
      · exact key k _ (by omega) (List.getElem?_eq_getElem hk)
    · split
      · exact (key j _ (by omega) (List.getElem?_eq_getElem hj)).symm
      · exact List.pairwise_iff_getElem.1 h.pw j k hj hk hjk
  · intro r hr b hb
    rcases hmem r hr with rfl | ⟨j, hne, hj⟩
    · rcases hat b hb with h1 | h1
      · exact h.from_ p hpm b h1
      · exact .inr (Nat.le_trans h.size h1)
    · exact h.from_ r (List.mem_of_getElem? hj) b hb

end Go.Proofs.YtlghgdgpbnlpmaaGreat
