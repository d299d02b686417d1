/- What is proved: what slices.Contains, IndexFunc and DeleteFunc answer on slices of kids that are the caller's own. Conditions: none. -/
import Derived.Test.YtailblpjmgabjaaTi
namespace Go.Proofs.Ytailblpjmgabjaa
open Go.RowKit
set_option linter.unusedVariables false
set_option linter.unusedSimpArgs false
set_option maxRecDepth 100000
set_option maxHeartbeats 16000000
def inK (keys : List ByteArray) (k : ByteArray) : Bool := keys.any fun x => eqKey k x
theorem indexS_a (l : List ByteArray) (hn : l.length ≤ 1000000) (k : ByteArray) : AFnP Try.prog 67 [lstE strE l, .str k] (i64 (idxI (fun x => eqKey k x) l)) := by
  refine afnp_in ty_ok Try.call67 Try.func67 rfl rfl (by decide +kernel) ?_
  (try conv=>whnf)<;>repeat'((first|exact sNo|refine sT ?_|refine sF ?_|((first|refine sD ?_ ?_|refine sE ?_ ?_|refine sN ?_ ?_|refine sG ?_ ?_)<;>intro ht<;>(first|(cases ht;done)|skip))|refine wr ?_|refine ix ?_|refine ati ?_|refine row ?_|refine app ?_|refine dr ?_|refine VAnd.mk ?_ ?_|exact VJe.mk rfl ⟨rfl,rfl⟩|refine .inl (slM ?_)|refine .inl (slO ?_)|refine slM ?_|refine slO ?_|refine slN ?_|refine slS ?_|refine swB (swM fun C hC=>?_)|refine sj ?_|refine .inl (sv ?_)|refine sv ?_|refine cl ?_|refine s3 ?_|refine az ?_|refine rm ?_|refine VBs.own ?_|fail)<;>(try conv=>whnf))
  refine VLp.mk ⟨[], [], [8], fun k' vs h => ∃ i : Nat, vs = [i64 i] ∧ h = [] ∧ i ≤ l.length ∧ k' = l.length - i ∧ ∀ j (hj : j < i) (hjl : j < l.length), eqKey k l[j] = false, l.length, ?_⟩
  conv => whnf
  refine ⟨⟨0, rfl, rfl, by omega, by omega, fun j hj => by omega⟩, ?_⟩
  rintro k' vs h ⟨i, rfl, rfl, hi, rfl, hg⟩
  by_cases hin : i < l.length
  · by_cases hk : k.toList = l[i].toList
    · have hke : eqKey k l[i] = true := by unfold eqKey; exact beq_iff_eq.2 hk
      (try conv=>whnf)<;>repeat'((first|exact sNo|refine sT ?_|refine sF ?_|((first|refine sD ?_ ?_|refine sE ?_ ?_|refine sN ?_ ?_|refine sG ?_ ?_)<;>intro ht<;>(first|(cases ht;done)|skip))|refine wr ?_|refine ix ?_|refine ati ?_|refine row ?_|refine app ?_|refine dr ?_|refine VAnd.mk ?_ ?_|exact VJe.mk rfl ⟨rfl,rfl⟩|refine .inl (slM ?_)|refine .inl (slO ?_)|refine slM ?_|refine slO ?_|refine slN ?_|refine slS ?_|refine swB (swM fun C hC=>?_)|refine sj ?_|refine .inl (sv ?_)|refine sv ?_|refine cl ?_|refine s3 ?_|refine az ?_|refine rm ?_|refine VBs.own ?_|fail)<;>(try conv=>whnf))
      all_goals first
        | exact absurd hk (by assumption)
        | (rw [idxI_some (p := fun x => eqKey k x) hin hke (fun j hj => hg j hj (by omega))])
    · have hke : eqKey k l[i] = false := by unfold eqKey; exact beq_eq_false_iff_ne.2 hk
      (try conv=>whnf)<;>repeat'((first|exact sNo|refine sT ?_|refine sF ?_|((first|refine sD ?_ ?_|refine sE ?_ ?_|refine sN ?_ ?_|refine sG ?_ ?_)<;>intro ht<;>(first|(cases ht;done)|skip))|refine wr ?_|refine ix ?_|refine ati ?_|refine row ?_|refine app ?_|refine dr ?_|refine VAnd.mk ?_ ?_|exact VJe.mk rfl ⟨rfl,rfl⟩|refine .inl (slM ?_)|refine .inl (slO ?_)|refine slM ?_|refine slO ?_|refine slN ?_|refine slS ?_|refine swB (swM fun C hC=>?_)|refine sj ?_|refine .inl (sv ?_)|refine sv ?_|refine cl ?_|refine s3 ?_|refine az ?_|refine rm ?_|refine VBs.own ?_|fail)<;>(try conv=>whnf))
      all_goals first
        | exact absurd (by assumption) hk
        | exact VRd.mk rfl ⟨l.length - (i + 1), by omega, i + 1, rfl, rfl, by omega, rfl, fun j hj hjl => by rcases Nat.lt_succ_iff_lt_or_eq.1 hj with h | rfl; exact hg j h hjl; exact hke⟩
  · rw [idxI_none (p := fun x => eqKey k x) (fun j hj => hg j (by omega) hj)]
    (try conv=>whnf)<;>repeat'((first|exact sNo|refine sT ?_|refine sF ?_|((first|refine sD ?_ ?_|refine sE ?_ ?_|refine sN ?_ ?_|refine sG ?_ ?_)<;>intro ht<;>(first|(cases ht;done)|skip))|refine wr ?_|refine ix ?_|refine ati ?_|refine row ?_|refine app ?_|refine dr ?_|refine VAnd.mk ?_ ?_|exact VJe.mk rfl ⟨rfl,rfl⟩|refine .inl (slM ?_)|refine .inl (slO ?_)|refine slM ?_|refine slO ?_|refine slN ?_|refine slS ?_|refine swB (swM fun C hC=>?_)|refine sj ?_|refine .inl (sv ?_)|refine sv ?_|refine cl ?_|refine s3 ?_|refine az ?_|refine rm ?_|refine VBs.own ?_|fail)<;>(try conv=>whnf))
    all_goals rfl
theorem containsS_a (l : List ByteArray) (hn : l.length ≤ 1000000) (k : ByteArray) : AFnP Try.prog 54 [lstE strE l, .str k] (.bool (inK l k)) := by
  have r := indexS_a l hn k
  have e := idxI_any (p := fun x => eqKey k x) (l := l)
  refine afnp_in ty_ok Try.call54 Try.func54 rfl rfl (by decide +kernel) ?_
  unfold inK
  rw [← e]
  generalize idxI (fun x => eqKey k x) l = z at *
  (try conv=>whnf)<;>repeat'((first|exact sNo|refine sT ?_|refine sF ?_|((first|refine sD ?_ ?_|refine sE ?_ ?_|refine sN ?_ ?_|refine sG ?_ ?_)<;>intro ht<;>(first|(cases ht;done)|skip))|refine wr ?_|refine ix ?_|refine ati ?_|refine row ?_|refine app ?_|refine dr ?_|refine VAnd.mk ?_ ?_|exact VJe.mk rfl ⟨rfl,rfl⟩|refine .inl (slM ?_)|refine .inl (slO ?_)|refine slM ?_|refine slO ?_|refine slN ?_|refine slS ?_|refine swB (swM fun C hC=>?_)|refine sj ?_|refine .inl (sv ?_)|refine sv ?_|refine cl ?_|refine s3 ?_|refine az ?_|refine rm ?_|refine VBs.own ?_|refine cf r ?_|refine cg r ?_|refine cz r ?_|fail)<;>(try conv=>whnf))
  all_goals (refine congrArg AV.bool ?_; simp [*])
theorem only1_a (x : ByteArray × Tr8) (keys : List ByteArray) (hn : keys.length ≤ 1000000) : AFn Try.prog 53 [.agg (kidE x), .op 0 0] [.blk 0 [lstE strE keys] 26] (fun r h' => r = .bool (!inK keys x.1) ∧ h' = [.blk 0 [lstE strE keys] 26]) := by
  have r := containsS_a keys hn x.1
  refine afn_in ty_ok Try.call53 Try.func53 rfl rfl (by decide +kernel) ?_
  generalize inK keys x.1 = b at *
  unfold kidE
  cases b
  all_goals
    (try conv=>whnf)<;>repeat'((first|exact sNo|refine sT ?_|refine sF ?_|((first|refine sD ?_ ?_|refine sE ?_ ?_|refine sN ?_ ?_|refine sG ?_ ?_)<;>intro ht<;>(first|(cases ht;done)|skip))|refine wr ?_|refine ix ?_|refine ati ?_|refine row ?_|refine app ?_|refine dr ?_|refine VAnd.mk ?_ ?_|exact VJe.mk rfl ⟨rfl,rfl⟩|refine .inl (slM ?_)|refine .inl (slO ?_)|refine slM ?_|refine slO ?_|refine slN ?_|refine slS ?_|refine swB (swM fun C hC=>?_)|refine sj ?_|refine .inl (sv ?_)|refine sv ?_|refine cl ?_|refine s3 ?_|refine az ?_|refine rm ?_|refine VBs.own ?_|refine cf r ?_|refine cg r ?_|refine cz r ?_|fail)<;>(try conv=>whnf))
    all_goals exact VRt.mk rfl ⟨rfl, rfl⟩
theorem without1_a (x : ByteArray × Tr8) (keys : List ByteArray) (hn : keys.length ≤ 1000000) : AFn Try.prog 55 [.agg (kidE x), .op 0 0] [.blk 0 [lstE strE keys] 26] (fun r h' => r = .bool (inK keys x.1) ∧ h' = [.blk 0 [lstE strE keys] 26]) := by
  have r := containsS_a keys hn x.1
  refine afn_in ty_ok Try.call55 Try.func55 rfl rfl (by decide +kernel) ?_
  generalize inK keys x.1 = b at *
  unfold kidE
  cases b
  all_goals
    (try conv=>whnf)<;>repeat'((first|exact sNo|refine sT ?_|refine sF ?_|((first|refine sD ?_ ?_|refine sE ?_ ?_|refine sN ?_ ?_|refine sG ?_ ?_)<;>intro ht<;>(first|(cases ht;done)|skip))|refine wr ?_|refine ix ?_|refine ati ?_|refine row ?_|refine app ?_|refine dr ?_|refine VAnd.mk ?_ ?_|exact VJe.mk rfl ⟨rfl,rfl⟩|refine .inl (slM ?_)|refine .inl (slO ?_)|refine slM ?_|refine slO ?_|refine slN ?_|refine slS ?_|refine swB (swM fun C hC=>?_)|refine sj ?_|refine .inl (sv ?_)|refine sv ?_|refine cl ?_|refine s3 ?_|refine az ?_|refine rm ?_|refine VBs.own ?_|refine cf r ?_|refine cg r ?_|refine cz r ?_|fail)<;>(try conv=>whnf))
    all_goals exact VRt.mk rfl ⟨rfl, rfl⟩
theorem indexKid_o (l : List (ByteArray × Tr8)) (hn : l.length ≤ 1000000) {g : Nat} {keys : List ByteArray} (p : (ByteArray × Tr8) → Bool) (hp : ∀ x, AFn Try.prog g [.agg (kidE x), .op 0 0] [.blk 0 [lstE strE keys] 26] (fun r h' => r = .bool (p x) ∧ h' = [.blk 0 [lstE strE keys] 26])) :
    AFn Try.prog 36 [.own 0 l.length, .fn g [.op 1 0]] [.row 0 56 3 (l.map kidE), .blk 1 [lstE strE keys] 26] (fun r h' => r = i64 (idxI p l) ∧ h' = [.row 0 56 3 (l.map kidE), .blk 1 [lstE strE keys] 26]) := by
  refine afn_in ty_ok Try.call36 Try.func36 rfl rfl (by decide +kernel) ?_
  (try conv=>whnf)<;>repeat'((first|exact sNo|refine sT ?_|refine sF ?_|((first|refine sD ?_ ?_|refine sE ?_ ?_|refine sN ?_ ?_|refine sG ?_ ?_)<;>intro ht<;>(first|(cases ht;done)|skip))|refine wr ?_|refine ix ?_|refine ati ?_|refine row ?_|refine app ?_|refine dr ?_|refine VAnd.mk ?_ ?_|exact VJe.mk rfl ⟨rfl,rfl⟩|refine .inl (slM ?_)|refine .inl (slO ?_)|refine slM ?_|refine slO ?_|refine slN ?_|refine slS ?_|refine swB (swM fun C hC=>?_)|refine sj ?_|refine .inl (sv ?_)|refine sv ?_|refine cl ?_|refine s3 ?_|refine az ?_|refine rm ?_|refine VBs.own ?_|fail)<;>(try conv=>whnf))
  refine VLp.mk ⟨[], [], [8], fun k' vs h => ∃ i : Nat, vs = [i64 i] ∧ h = [.row 0 56 3 (l.map kidE), .blk 1 [lstE strE keys] 26] ∧ i ≤ l.length ∧ k' = l.length - i ∧ ∀ j (hj : j < i) (hjl : j < l.length), p l[j] = false, l.length, ?_⟩
  conv => whnf
  refine ⟨⟨0, rfl, rfl, by omega, by omega, fun j hj => by omega⟩, ?_⟩
  rintro k' vs h ⟨i, rfl, rfl, hi, rfl, hg⟩
  by_cases hin : i < l.length
  · have hpi := hp l[i]
    cases hk : p l[i]
    · rw [hk] at hpi
      (try conv=>whnf)<;>repeat'((first|exact sNo|refine sT ?_|refine sF ?_|((first|refine sD ?_ ?_|refine sE ?_ ?_|refine sN ?_ ?_|refine sG ?_ ?_)<;>intro ht<;>(first|(cases ht;done)|skip))|refine wr ?_|refine ix ?_|refine ati ?_|refine row ?_|refine app ?_|refine dr ?_|refine VAnd.mk ?_ ?_|exact VJe.mk rfl ⟨rfl,rfl⟩|refine .inl (slM ?_)|refine .inl (slO ?_)|refine slM ?_|refine slO ?_|refine slN ?_|refine slS ?_|refine swB (swM fun C hC=>?_)|refine sj ?_|refine .inl (sv ?_)|refine sv ?_|refine cl ?_|refine s3 ?_|refine az ?_|refine rm ?_|refine VBs.own ?_|(refine co hpi ?_;rintro r h' ⟨rfl,rfl⟩)|fail)<;>(try conv=>whnf))
      all_goals exact VRd.mk rfl ⟨l.length - (i + 1), by omega, i + 1, rfl, rfl, by omega, rfl, fun j hj hjl => by rcases Nat.lt_succ_iff_lt_or_eq.1 hj with h | rfl; exact hg j h hjl; exact hk⟩
    · rw [hk] at hpi
      rw [idxI_some hin hk (fun j hj => hg j hj (by omega))]
      (try conv=>whnf)<;>repeat'((first|exact sNo|refine sT ?_|refine sF ?_|((first|refine sD ?_ ?_|refine sE ?_ ?_|refine sN ?_ ?_|refine sG ?_ ?_)<;>intro ht<;>(first|(cases ht;done)|skip))|refine wr ?_|refine ix ?_|refine ati ?_|refine row ?_|refine app ?_|refine dr ?_|refine VAnd.mk ?_ ?_|exact VJe.mk rfl ⟨rfl,rfl⟩|refine .inl (slM ?_)|refine .inl (slO ?_)|refine slM ?_|refine slO ?_|refine slN ?_|refine slS ?_|refine swB (swM fun C hC=>?_)|refine sj ?_|refine .inl (sv ?_)|refine sv ?_|refine cl ?_|refine s3 ?_|refine az ?_|refine rm ?_|refine VBs.own ?_|(refine co hpi ?_;rintro r h' ⟨rfl,rfl⟩)|fail)<;>(try conv=>whnf))
      all_goals exact VRt.mk rfl ⟨rfl, rfl⟩
  · rw [idxI_none (fun j hj => hg j (by omega) hj)]
    (try conv=>whnf)<;>repeat'((first|exact sNo|refine sT ?_|refine sF ?_|((first|refine sD ?_ ?_|refine sE ?_ ?_|refine sN ?_ ?_|refine sG ?_ ?_)<;>intro ht<;>(first|(cases ht;done)|skip))|refine wr ?_|refine ix ?_|refine ati ?_|refine row ?_|refine app ?_|refine dr ?_|refine VAnd.mk ?_ ?_|exact VJe.mk rfl ⟨rfl,rfl⟩|refine .inl (slM ?_)|refine .inl (slO ?_)|refine slM ?_|refine slO ?_|refine slN ?_|refine slS ?_|refine swB (swM fun C hC=>?_)|refine sj ?_|refine .inl (sv ?_)|refine sv ?_|refine cl ?_|refine s3 ?_|refine az ?_|refine rm ?_|refine VBs.own ?_|fail)<;>(try conv=>whnf))
    all_goals exact VRt.mk rfl ⟨rfl, rfl⟩
def keepK (p : (ByteArray × Tr8) → Bool) (l : List (ByteArray × Tr8)) : List (ByteArray × Tr8) := l.filter fun x => !p x
theorem keepK_take {p : (ByteArray × Tr8) → Bool} {l : List (ByteArray × Tr8)} {i : Nat} (h : i < l.length) : keepK p (l.take (i + 1)) = keepK p (l.take i) ++ (if p l[i] = true then [] else [l[i]]) := by
  unfold keepK
  rw [List.take_succ_eq_append_getElem h, List.filter_append]
  congr 1
  cases hp : p l[i] <;> simp [hp]
theorem keepK_len (p : (ByteArray × Tr8) → Bool) (l : List (ByteArray × Tr8)) : (keepK p l).length ≤ l.length := List.length_filter_le _ _
theorem three {X : List (List AV)} (h0 : 0 < X.length) (h3 : ∀ x ∈ X, x.length = 3) : ∃ a b c X1, X = [a, b, c] :: X1 ∧ ∀ x ∈ X1, x.length = 3 := by
  match X, h0 with
  | x :: X1, _ =>
    have hx := h3 x (List.mem_cons_self ..)
    match x, hx with
    | [a, b, c], _ => exact ⟨a, b, c, X1, rfl, fun y hy => h3 y (List.mem_cons_of_mem _ hy)⟩
theorem set_mid {α : Type} {A X D : List α} {x y c : α} : (A ++ x :: X ++ c :: D).set A.length y = (A ++ [y]) ++ (X ++ [c]) ++ D := by
  simp [List.set_append]
theorem deleteKid_o (l : List (ByteArray × Tr8)) (hn : l.length ≤ 1000000) {g : Nat} {keys : List ByteArray} (p : (ByteArray × Tr8) → Bool) (hp : ∀ x, AFn Try.prog g [.agg (kidE x), .op 0 0] [.blk 0 [lstE strE keys] 26] (fun r h' => r = .bool (p x) ∧ h' = [.blk 0 [lstE strE keys] 26])) :
    AFn Try.prog 52 [.own 0 l.length, .fn g [.op 1 0]] [.row 0 56 3 (l.map kidE), .blk 1 [lstE strE keys] 26]
      (fun r h' => (r = .own 0 (keepK p l).length ∧ h' = [.row 0 56 3 ((keepK p l).map kidE), .blk 1 [lstE strE keys] 26]) ∨ (r = .own 2 (keepK p l).length ∧ h' = [.blk 1 [lstE strE keys] 26, .row 2 56 3 ((keepK p l).map kidE)])) := by
  have r0 := indexKid_o l hn p hp
  refine afn_in ty_ok Try.call52 Try.func52 rfl rfl (by decide +kernel) ?_
  cases hf : l.findIdx? p with
  | none =>
    have e : idxI p l = -1 := by unfold idxI; rw [hf]
    have ek : keepK p l = l := List.filter_eq_self.2 fun x hx => by
      have := List.findIdx?_eq_none_iff.1 hf x hx
      simp [this]
    rw [e] at r0
    rw [ek]
    (try conv=>whnf)<;>repeat'((first|exact sNo|refine sT ?_|refine sF ?_|((first|refine sD ?_ ?_|refine sE ?_ ?_|refine sN ?_ ?_|refine sG ?_ ?_)<;>intro ht<;>(first|(cases ht;done)|skip))|refine wr ?_|refine ix ?_|refine ati ?_|refine row ?_|refine app ?_|refine dr ?_|refine VAnd.mk ?_ ?_|exact VJe.mk rfl ⟨rfl,rfl⟩|refine .inl (slM ?_)|refine .inl (slO ?_)|refine slM ?_|refine slO ?_|refine slN ?_|refine slS ?_|refine swB (swM fun C hC=>?_)|refine sj ?_|refine .inl (sv ?_)|refine sv ?_|refine cl ?_|refine s3 ?_|refine az ?_|refine rm ?_|refine VBs.own ?_|(refine co r0 ?_;rintro r h' ⟨rfl,rfl⟩)|fail)<;>(try conv=>whnf))
    all_goals exact VRt.mk rfl (.inl ⟨rfl, rfl⟩)
  | some i0 =>
    obtain ⟨hi0, hpi0, hb0⟩ := List.findIdx?_eq_some_iff_getElem.1 hf
    have e : idxI p l = (i0 : Int) := by unfold idxI; rw [hf]
    rw [e] at r0
    have hk0 : keepK p (l.take (i0 + 1)) = l.take i0 := by
      rw [keepK_take hi0, if_pos hpi0, List.append_nil]
      refine List.filter_eq_self.2 fun x hx => ?_
      obtain ⟨j, hj, rfl⟩ := List.getElem_of_mem hx
      rw [List.getElem_take]
      rw [List.length_take] at hj
      have := hb0 j (by omega)
      simpa using this
    (try conv=>whnf)<;>repeat'((first|exact sNo|refine sT ?_|refine sF ?_|((first|refine sD ?_ ?_|refine sE ?_ ?_|refine sN ?_ ?_|refine sG ?_ ?_)<;>intro ht<;>(first|(cases ht;done)|skip))|refine wr ?_|refine ix ?_|refine ati ?_|refine row ?_|refine app ?_|refine dr ?_|refine VAnd.mk ?_ ?_|exact VJe.mk rfl ⟨rfl,rfl⟩|refine .inl (slM ?_)|refine .inl (slO ?_)|refine slM ?_|refine slO ?_|refine slN ?_|refine slS ?_|refine swB (swM fun C hC=>?_)|refine sj ?_|refine .inl (sv ?_)|refine sv ?_|refine cl ?_|refine s3 ?_|refine az ?_|refine rm ?_|refine VBs.own ?_|(refine co r0 ?_;rintro r h' ⟨rfl,rfl⟩)|fail)<;>(try conv=>whnf))
    refine VLp.mk ⟨[], [], [5, 6], fun k' vs h => ∃ (j : Nat) (X : List (List AV)), vs = [i64 (keepK p (l.take j)).length, i64 j] ∧ h = [.row 0 56 3 ((keepK p (l.take j)).map kidE ++ X ++ (l.drop j).map kidE), .blk 1 [lstE strE keys] 26] ∧ j ≤ l.length ∧ k' = l.length - j ∧ (keepK p (l.take j)).length + X.length = j ∧ 0 < X.length ∧ ∀ x ∈ X, x.length = 3, l.length - (i0 + 1), ?_⟩
    have hR0 : l.map kidE = (l.take i0).map kidE ++ [kidE l[i0]] ++ (l.drop (i0 + 1)).map kidE := by
      rw [← List.map_singleton, ← List.map_append, ← List.map_append, take_snoc hi0, List.take_append_drop]
    conv => whnf
    refine ⟨⟨i0 + 1, [kidE l[i0]], ?_, ?_, by omega, by omega, ?_, by simp, ?_⟩, ?_⟩
    · rw [hk0, List.length_take, Nat.min_eq_left (by omega)]; rfl
    · rw [hk0, ← hR0]
    · rw [hk0]; simp; omega
    · intro x hx; rw [List.mem_singleton.1 hx]; rfl
    rintro k' vs h ⟨j, X, rfl, rfl, hj, rfl, hAX, hX0, hX3⟩
    by_cases hjn : j < l.length
    · obtain ⟨a, b, c, X1, rfl, hX1⟩ := three hX0 hX3
      have ek := keepK_take (p := p) hjn
      have hdr : l.drop j = l[j] :: l.drop (j + 1) := List.drop_eq_getElem_cons hjn
      have hpj := hp l[j]
      rw [hdr, List.map_cons]
      obtain ⟨A, hA⟩ : ∃ A, A = (keepK p (l.take j)).map kidE := ⟨_, rfl⟩
      have hAl : A.length = (keepK p (l.take j)).length := by rw [hA, List.length_map]
      rw [← hA]
      simp only [List.length_cons] at hAX
      have hrow : (A ++ [a, b, c] :: X1 ++ kidE l[j] :: (l.drop (j + 1)).map kidE)[j]? = some (kidE l[j]) := by
        rw [List.getElem?_append_right (by simp only [List.length_append, List.length_cons]; omega), show j - (A ++ [a, b, c] :: X1).length = 0 by simp only [List.length_append, List.length_cons]; omega]
        rfl
      have hri : (A ++ [a, b, c] :: X1 ++ kidE l[j] :: (l.drop (j + 1)).map kidE)[(keepK p (l.take j)).length]? = some [a, b, c] := by
        rw [List.append_assoc, List.getElem?_append_right (by omega), show (keepK p (l.take j)).length - A.length = 0 by omega]
        rfl
      have hset : (A ++ [a, b, c] :: X1 ++ kidE l[j] :: (l.drop (j + 1)).map kidE).set (keepK p (l.take j)).length (kidE l[j]) = (A ++ [kidE l[j]]) ++ (X1 ++ [kidE l[j]]) ++ (l.drop (j + 1)).map kidE := by
        rw [← hAl]; exact set_mid
      have hlen := keepK_len p (l.take j)
      rw [List.length_take] at hlen
      obtain ⟨i, hlen0⟩ : ∃ i, (keepK p (l.take j)).length = i := ⟨_, rfl⟩
      rw [hlen0] at hAX hAl hri hset hlen ⊢
      cases hk : p l[j]
      · rw [hk] at hpj ek
        rw [if_neg (by decide)] at ek
        have el : (keepK p (l.take (j + 1))).length = i + 1 := by rw [ek, List.length_append, ← List.length_map (f := kidE), ← hA, hAl]; rfl
        (try conv=>whnf)<;>repeat'((first|exact sNo|refine sT ?_|refine sF ?_|((first|refine sD ?_ ?_|refine sE ?_ ?_|refine sN ?_ ?_|refine sG ?_ ?_)<;>intro ht<;>(first|(cases ht;done)|skip))|refine wr ?_|refine ix ?_|refine ati ?_|refine row ?_|refine app ?_|refine dr ?_|refine VAnd.mk ?_ ?_|exact VJe.mk rfl ⟨rfl,rfl⟩|refine .inl (slM ?_)|refine .inl (slO ?_)|refine slM ?_|refine slO ?_|refine slN ?_|refine slS ?_|refine swB (swM fun C hC=>?_)|refine sj ?_|refine .inl (sv ?_)|refine sv ?_|refine cl ?_|refine s3 ?_|refine az ?_|refine rm ?_|refine VBs.own ?_|(refine co hpj ?_;rintro r h' ⟨rfl,rfl⟩)|fail)<;>(try conv=>whnf))
        all_goals exact VRd.mk rfl ⟨l.length - (j + 1), by omega, j + 1, X1 ++ [kidE l[j]], by rw [el]; rfl, by rw [ek, List.map_append, List.map_singleton, ← hA]; exact congrArg (fun R => [AP.row 0 56 3 R, AP.blk 1 [lstE strE keys] 26]) hset, by omega, rfl, by rw [el]; simp; omega, by simp, fun x hx => by rcases List.mem_append.1 hx with hx | hx; exact hX1 x hx; rw [List.mem_singleton.1 hx]; rfl⟩
      · rw [hk] at hpj ek
        rw [if_pos rfl, List.append_nil] at ek
        (try conv=>whnf)<;>repeat'((first|exact sNo|refine sT ?_|refine sF ?_|((first|refine sD ?_ ?_|refine sE ?_ ?_|refine sN ?_ ?_|refine sG ?_ ?_)<;>intro ht<;>(first|(cases ht;done)|skip))|refine wr ?_|refine ix ?_|refine ati ?_|refine row ?_|refine app ?_|refine dr ?_|refine VAnd.mk ?_ ?_|exact VJe.mk rfl ⟨rfl,rfl⟩|refine .inl (slM ?_)|refine .inl (slO ?_)|refine slM ?_|refine slO ?_|refine slN ?_|refine slS ?_|refine swB (swM fun C hC=>?_)|refine sj ?_|refine .inl (sv ?_)|refine sv ?_|refine cl ?_|refine s3 ?_|refine az ?_|refine rm ?_|refine VBs.own ?_|(refine co hpj ?_;rintro r h' ⟨rfl,rfl⟩)|fail)<;>(try conv=>whnf))
        all_goals exact VRd.mk rfl ⟨l.length - (j + 1), by omega, j + 1, ([a, b, c] :: X1) ++ [kidE l[j]], by rw [ek, hlen0]; rfl, by rw [ek, ← hA]; simp, by omega, rfl, by rw [ek, hlen0]; simp; omega, by simp, fun x hx => by rcases List.mem_append.1 hx with hx | hx; exact hX3 x hx; rw [List.mem_singleton.1 hx]; rfl⟩
    · obtain rfl : j = l.length := by omega
      rw [List.take_length] at hAX ⊢
      rw [List.drop_length, List.map_nil, List.append_nil]
      obtain ⟨A, hA⟩ : ∃ A, A = (keepK p l).map kidE := ⟨_, rfl⟩
      have hAl : A.length = (keepK p l).length := by rw [hA, List.length_map]
      rw [← hA]
      have hRl : (A ++ X).length = l.length := by rw [List.length_append]; omega
      have hRt : ∀ Y D : List (List AV), ((A ++ X).take (keepK p l).length ++ Y ++ D).take (keepK p l).length = A := fun Y D => by
        have h1 : (A ++ X).take A.length = A := List.take_left' rfl
        rw [← hAl, h1, List.append_assoc]
        exact List.take_left' rfl
      generalize (keepK p l).length = i at *
      generalize A ++ X = R at *
      (try conv=>whnf)<;>repeat'((first|exact sNo|refine sT ?_|refine sF ?_|((first|refine sD ?_ ?_|refine sE ?_ ?_|refine sN ?_ ?_|refine sG ?_ ?_)<;>intro ht<;>(first|(cases ht;done)|skip))|refine wr ?_|refine ix ?_|refine ati ?_|refine row ?_|refine app ?_|refine dr ?_|refine VAnd.mk ?_ ?_|exact VJe.mk rfl ⟨rfl,rfl⟩|refine .inl (slM ?_)|refine .inl (slO ?_)|refine slM ?_|refine slO ?_|refine slN ?_|refine slS ?_|refine swB (swM fun C hC=>?_)|refine sj ?_|refine .inl (sv ?_)|refine sv ?_|refine cl ?_|refine s3 ?_|refine az ?_|refine rm ?_|refine VBs.own ?_|fail)<;>(try conv=>whnf))
      all_goals exact VRt.mk rfl (.inr ⟨rfl, by rw [hRt]⟩)
end Go.Proofs.Ytailblpjmgabjaa
