/- What is proved: what the small methods of buffers answer and do. Conditions: none. -/
import Derived.Test.YtlghgdgpbnlpmaaHa
namespace Go.Proofs.Ytlghgdgpbnlpmaa
open Go.RowKit
set_option linter.unusedVariables false
set_option linter.unusedSimpArgs false
set_option maxRecDepth 100000
set_option maxHeartbeats 100000000
abbrev bufP (id : Nat) (b : Buf) : AP := .blk id (bufE b) 77
/-- nil cells of blocks that come out, as empty lists -/
theorem flatH_top (h : List AP) : ∀ n, topN (flatH h) n = topN h n := by
  induction h with
  | nil => intro n; rfl
  | cons p h ih =>
    intro n
    have e : (flatP p).id = p.id := by cases p <;> rfl
    show topN (flatP p :: flatH h) n = _
    rw [topN, topN, e, ih]
theorem AFn.fl {P : Program} {f : FuncId} {args : List AV} {h : List AP} {R R' : AV → List AP → Prop} (ha : AFn P f args h R) (hR : ∀ r h', R r h' → R' r (flatH h')) : AFn P f args h R' := by
  intro E vs L hnx hvs hh
  obtain ⟨h1, h2⟩ := ha E vs L hnx hvs hh
  refine ⟨h1, fun w hs => (h2 w hs).mono ?_⟩
  rintro x w' ⟨v, H', O, hx, hse, E', r, h', rfl, hE, hv, hh', hn, hr0⟩
  exact ⟨v, E'.H, O, hx, hse, E', r, flatH h', rfl, hE, hv, VH_flat hh', by rw [flatH_top]; exact hn, hR r h' hr0⟩
def newOk (s c : Int) : Bool := decide (1 ≤ c ∧ c ≤ 4 ∧ 0 ≤ s ∧ s < c)
theorem bnew_t {s c : Int} (h : newOk s c = true) : AFn Try.prog 11 [i64 s, i64 c] [] (fun r h' => r = .tup [.op 0 0, i64 0] ∧ h' = [bufP 0 (newBuf s c)]) := by
  have h := of_decide_eq_true h
  refine AFn.fl (R := fun r h' => r = .tup [.op 0 0, i64 0] ∧ h' = [.blk 0 [i64 s, i64 c, .nils, i64 0, i64 0, i64 0, i64 0, i64 0, i64 0, i64 0, i64 0, i64 0, i64 0, i64 0, i64 0, i64 0, i64 0, i64 0, i64 0, i64 0] 77]) ?_ (by rintro r h' ⟨rfl, rfl⟩; exact ⟨rfl, rfl⟩)
  refine afn_in ty_ok Try.call11 Try.func11 rfl rfl (by decide +kernel) ?_
  (try conv=>whnf)<;>repeat'((first|exact sNo|refine sT ?_|refine sF ?_|((first|refine sD ?_ ?_|refine sE ?_ ?_|refine sN ?_ ?_|refine sG ?_ ?_)<;>intro ht<;>(first|(cases ht;done)|skip))|refine wr ?_|refine ix ?_|refine ati ?_|refine row ?_|refine app ?_|refine dr ?_|refine VAnd.mk ?_ ?_|exact VJe.mk rfl ⟨rfl,rfl⟩|refine .inl (slM ?_)|refine .inl (slO ?_)|refine slM ?_|refine slO ?_|refine slN ?_|refine slS ?_|refine swB (swM fun C hC=>?_)|refine sj ?_|refine .inl (sv ?_)|refine sv ?_|refine cl ?_|refine s3 ?_|refine az ?_|refine rm ?_|refine VBs.own ?_|fail)<;>(try conv=>whnf))
  all_goals exact VRt.mk rfl ⟨rfl, rfl⟩
def peerB (b : Buf) (n : Int) : Bool := decide (0 ≤ n ∧ n < b.cn ∧ n ≠ b.self)
theorem bpeer_a (b : Buf) (n : Int) : AFnP Try.prog 42 [.fp (bufE b) 0, i64 n] (.bool (peerB b n)) := by
  refine afp ty_ok Try.call42 Try.func42 ?_
  unfold peerB bufE lstE
  generalize b.m.map prB = R at *
  generalize b.m.length = nn at *
  (try conv=>whnf)<;>repeat'((first|exact sNo|refine sT ?_|refine sF ?_|((first|refine sD ?_ ?_|refine sE ?_ ?_|refine sN ?_ ?_|refine sG ?_ ?_)<;>intro ht<;>(first|(cases ht;done)|skip))|refine wr ?_|refine ix ?_|refine ati ?_|refine row ?_|refine app ?_|refine dr ?_|refine VAnd.mk ?_ ?_|exact VJe.mk rfl ⟨rfl,rfl⟩|refine .inl (slM ?_)|refine .inl (slO ?_)|refine slM ?_|refine slO ?_|refine slN ?_|refine slS ?_|refine swB (swM fun C hC=>?_)|refine sj ?_|refine .inl (sv ?_)|refine sv ?_|refine cl ?_|refine s3 ?_|refine az ?_|refine rm ?_|refine VBs.own ?_|fail)<;>(try conv=>whnf))
  all_goals (refine congrArg AV.bool ?_; first | (rw [decide_eq_true (by omega)]; done) | (rw [decide_eq_false (by omega)]; done))
theorem bpeer_p {b : Buf} {n : Int} {t : Bool} (h : peerB b n = t) : AFnP Try.prog 42 [.fp (bufE b) 0, i64 n] (.bool t) := by subst h; exact bpeer_a b n
theorem bvec_a (v : Int → Int) : AFnP Try.prog 43 [vecE v] (.bool (mayV v)) := by
  refine afp ty_ok Try.call43 Try.func43 ?_
  have r1 := cfull_a v
  unfold fullE at r1
  cases h : mayV v
  · rw [h] at r1
    (try conv=>whnf)<;>repeat'((first|exact sNo|refine sT ?_|refine sF ?_|((first|refine sD ?_ ?_|refine sE ?_ ?_|refine sN ?_ ?_|refine sG ?_ ?_)<;>intro ht<;>(first|(cases ht;done)|skip))|refine wr ?_|refine ix ?_|refine ati ?_|refine row ?_|refine app ?_|refine dr ?_|refine VAnd.mk ?_ ?_|exact VJe.mk rfl ⟨rfl,rfl⟩|refine .inl (slM ?_)|refine .inl (slO ?_)|refine slM ?_|refine slO ?_|refine slN ?_|refine slS ?_|refine swB (swM fun C hC=>?_)|refine sj ?_|refine .inl (sv ?_)|refine sv ?_|refine cl ?_|refine s3 ?_|refine az ?_|refine rm ?_|refine VBs.own ?_|refine cf r1 ?_|refine cg r1 ?_|refine cz r1 ?_|fail)<;>(try conv=>whnf))
    all_goals rfl
  · rw [h] at r1
    generalize fullC v = C at *
    (try conv=>whnf)<;>repeat'((first|exact sNo|refine sT ?_|refine sF ?_|((first|refine sD ?_ ?_|refine sE ?_ ?_|refine sN ?_ ?_|refine sG ?_ ?_)<;>intro ht<;>(first|(cases ht;done)|skip))|refine wr ?_|refine ix ?_|refine ati ?_|refine row ?_|refine app ?_|refine dr ?_|refine VAnd.mk ?_ ?_|exact VJe.mk rfl ⟨rfl,rfl⟩|refine .inl (slM ?_)|refine .inl (slO ?_)|refine slM ?_|refine slO ?_|refine slN ?_|refine slS ?_|refine swB (swM fun C hC=>?_)|refine sj ?_|refine .inl (sv ?_)|refine sv ?_|refine cl ?_|refine s3 ?_|refine az ?_|refine rm ?_|refine VBs.own ?_|refine cf r1 ?_|refine cg r1 ?_|refine cz r1 ?_|fail)<;>(try conv=>whnf))
    all_goals rfl
theorem bvec_p {v : Int → Int} {t : Bool} (h : mayV v = t) : AFnP Try.prog 43 [vecE v] (.bool t) := by subst h; exact bvec_a v
theorem peer_four {b : Buf} (hc : b.cn ≤ 4) {n : Int} (h : peerB b n = true) : (n = 0 ∧ n = ((0 : Nat) : Int)) ∨ (n = 1 ∧ n = ((1 : Nat) : Int)) ∨ (n = 2 ∧ n = ((2 : Nat) : Int)) ∨ (n = 3 ∧ n = ((3 : Nat) : Int)) := by
  have := of_decide_eq_true h
  omega
theorem blen_a (b : Buf) : AFnP Try.prog 14 [.fp (bufE b) 0] (i64 (b.m.length : Nat)) := by
  refine afp ty_ok Try.call14 Try.func14 ?_
  have r1 := lenB_a b.m
  unfold bufE
  unfold lstE at r1 ⊢
  generalize b.m.map prB = R at *
  generalize b.m.length = nn at *
  (try conv=>whnf)<;>repeat'((first|exact sNo|refine sT ?_|refine sF ?_|((first|refine sD ?_ ?_|refine sE ?_ ?_|refine sN ?_ ?_|refine sG ?_ ?_)<;>intro ht<;>(first|(cases ht;done)|skip))|refine wr ?_|refine ix ?_|refine ati ?_|refine row ?_|refine app ?_|refine dr ?_|refine VAnd.mk ?_ ?_|exact VJe.mk rfl ⟨rfl,rfl⟩|refine .inl (slM ?_)|refine .inl (slO ?_)|refine slM ?_|refine slO ?_|refine slN ?_|refine slS ?_|refine swB (swM fun C hC=>?_)|refine sj ?_|refine .inl (sv ?_)|refine sv ?_|refine cl ?_|refine s3 ?_|refine az ?_|refine rm ?_|refine VBs.own ?_|refine cf r1 ?_|refine cg r1 ?_|refine cz r1 ?_|fail)<;>(try conv=>whnf))
  all_goals rfl
end Go.Proofs.Ytlghgdgpbnlpmaa
