/- What is proved: what Build of chapter 08's reference answers of a right tree's leaves. Conditions: none. -/
import Derived.Test.YtailblpjmgabjaaUc
namespace Go.Proofs.Ytailblpjmgabjaa
open Go.RowKit
set_option linter.unusedVariables false
set_option linter.unusedSimpArgs false
set_option maxRecDepth 100000
set_option maxHeartbeats 16000000
def zeroE : Ent8 := ((0, 0), ⟨#[]⟩, 0)
def bestE (o : Option Leaf8) : Ent8 := (o.map (·.2)).getD zeroE
def bestK (o : Option Leaf8) : ByteArray := (o.map headK).getD ⟨#[]⟩
theorem bestK_some (b : Leaf8) : bestK (some b) = headK b := rfl
theorem headK_eq {x : Leaf8} (h : 0 < x.1.length) : headK x = x.1[0] := by
  unfold headK
  rcases x with ⟨_ | ⟨p, ps⟩, e⟩
  · cases h
  · rfl
theorem sel_ne {L : ByteArray} {l : List Leaf8} {j : Nat} {b : Leaf8} (h : selS (candK L) ltK (l.take j) = some b) : ¬ (bestK (some b)).toList = (⟨#[]⟩ : ByteArray).toList := by
  have sp := (selS_spec (c := candK L) (lt := ltK) (fun a => bl_irrefl _) (fun a b d h1 h2 => bl_trans h1 h2) (l.take j)).1 b h
  have := sp.2.1
  unfold candK at this
  simp only [Bool.and_eq_true] at this
  intro he
  rw [bestK_some] at he
  rw [he, nil_str] at this
  cases hL : L.toList <;> rw [hL] at this <;> cases this.2
theorem undL_path {key : ByteArray} {l : List Leaf8} (hp : ∀ x ∈ l, x.1.length ≤ 1000000) : ∀ x ∈ undL key l, x.1.length ≤ 1000000 := fun x hx => by
  have := hp _ (mem_und.1 hx)
  simp only [List.length_cons] at this
  omega
theorem build_step (d : Nat) (ih : ∀ (t : Tr8) (l : List Leaf8), rightT d t = true → LvT l t → l.length ≤ 1000000 → cntT t ≤ 1000000 → (∀ x ∈ l, x.1.length ≤ 1000000) → AFnP Try.prog 41 [lstE leafE l] (.agg [lstE entE t.es, lstE kidRow t.ks]))
    (t : Tr8) (l : List Leaf8) (hr : rightT (d + 1) t = true) (hl : LvT l t) (hn : l.length ≤ 1000000) (hc : cntT t ≤ 1000000) (hp : ∀ x ∈ l, x.1.length ≤ 1000000) : AFnP Try.prog 41 [lstE leafE l] (.agg [lstE entE t.es, lstE kidRow t.ks]) := by
  rw [kidRow_fun]
  refine afnp_in ty_ok Try.call41 Try.func41 rfl rfl (by decide +kernel) ?_
  have hcnt := cntT_eq t
  (try conv=>whnf)<;>repeat'((first|exact sNo|refine sT ?_|refine sF ?_|((first|refine sD ?_ ?_|refine sE ?_ ?_|refine sN ?_ ?_|refine sG ?_ ?_)<;>intro ht<;>(first|(cases ht;done)|skip))|refine wr ?_|refine ix ?_|refine ati ?_|refine row ?_|refine app ?_|refine dr ?_|refine VAnd.mk ?_ ?_|exact VJe.mk rfl ⟨rfl,rfl⟩|refine .inl (slM ?_)|refine .inl (slO ?_)|refine slM ?_|refine slO ?_|refine slN ?_|refine slS ?_|refine swB (swM fun C hC=>?_)|refine sj ?_|refine .inl (sv ?_)|refine sv ?_|refine cl ?_|refine s3 ?_|refine az ?_|fail)<;>(try conv=>whnf))
  refine VLp.mk ⟨[.cell 1 0 63 4], [], [2, 3], fun k vs h => ∃ i : Nat, vs = [.op 0 0, .op 1 0] ∧ h = [.blk 0 [.nils, .nils] 25, .blk 1 [.own 2 i, .nils] 25, .row 2 63 4 ((t.es.take i).map entE)] ∧ i ≤ t.es.length ∧ k = t.es.length - i, t.es.length, ?_⟩
  conv => whnf
  refine ⟨⟨0, rfl, rfl, by omega, by omega⟩, ?_⟩
  rintro k vs h ⟨i, rfl, rfl, hi, rfl⟩
  have hsel := selE_eq hr hl hi
  (try conv=>whnf)<;>repeat'((first|exact sNo|refine sT ?_|refine sF ?_|((first|refine sD ?_ ?_|refine sE ?_ ?_|refine sN ?_ ?_|refine sG ?_ ?_)<;>intro ht<;>(first|(cases ht;done)|skip))|refine wr ?_|refine ix ?_|refine ati ?_|refine row ?_|refine app ?_|refine dr ?_|refine VAnd.mk ?_ ?_|exact VJe.mk rfl ⟨rfl,rfl⟩|refine .inl (slM ?_)|refine .inl (slO ?_)|refine slM ?_|refine slO ?_|refine slN ?_|refine slS ?_|refine swB (swM fun C hC=>?_)|refine sj ?_|refine .inl (sv ?_)|refine sv ?_|refine cl ?_|refine s3 ?_|refine az ?_|fail)<;>(try conv=>whnf))
  refine VLp.mk ⟨[], [], [2, 3, 4, 5, 13], fun k vs h => ∃ j : Nat, vs = [.op 0 0, .op 1 0, .op 2 0, .bool (selS (candE (t.es.take i)) ltE (l.take j)).isSome, i64 j] ∧ h = [.blk 0 [.nils, .nils] 25, .blk 1 [.own 3 i, .nils] 25, .blk 2 (entE (bestE (selS (candE (t.es.take i)) ltE (l.take j)))) 63, .row 3 63 4 ((t.es.take i).map entE)] ∧ j ≤ l.length ∧ k = l.length - j, l.length, ?_⟩
  conv => whnf
  refine ⟨⟨0, rfl, rfl, by omega, by omega⟩, ?_⟩
  rintro k vs h ⟨j, rfl, rfl, hj, rfl⟩
  have hA : (t.es.take i).length = i := by rw [List.length_take]; omega
  obtain ⟨A, hAe⟩ : ∃ A, A = t.es.take i := ⟨_, rfl⟩
  rw [← hAe] at hA hsel
  rw [← hAe]
  by_cases hjn : j < l.length
  · have est := selS_take (c := candE A) (lt := ltE) hjn
    have hlen := hp l[j] (List.getElem_mem hjn)
    rcases i with _ | i0
    · have hcand : candE A l[j] = decide (l[j].1.length = 0) := by
        unfold candE; rw [List.eq_nil_of_length_eq_zero hA]; simp
      cases ho : selS (candE A) ltE (l.take j) with
      | none =>
        rw [ho] at est
        (try conv=>whnf)<;>repeat'((first|exact sNo|refine sT ?_|refine sF ?_|((first|refine sD ?_ ?_|refine sE ?_ ?_|refine sN ?_ ?_|refine sG ?_ ?_)<;>intro ht<;>(first|(cases ht;done)|skip))|refine wr ?_|refine ix ?_|refine ati ?_|refine row ?_|refine app ?_|refine dr ?_|refine VAnd.mk ?_ ?_|exact VJe.mk rfl ⟨rfl,rfl⟩|refine .inl (slM ?_)|refine .inl (slO ?_)|refine slM ?_|refine slO ?_|refine slN ?_|refine slS ?_|refine swB (swM fun C hC=>?_)|refine sj ?_|refine .inl (sv ?_)|refine sv ?_|refine cl ?_|refine s3 ?_|refine az ?_|fail)<;>(try conv=>whnf))
        all_goals first
          | (have st := est.trans (stepS_yes (by rw [hcand]; exact decide_eq_true (by omega)) (fun b hb => by cases hb)); exact VRd.mk rfl ⟨l.length - (j + 1), by omega, j + 1, by rw [st]; rfl, by rw [st]; rfl, by omega, rfl⟩)
          | (have st := est.trans (stepS_no1 (by rw [hcand]; exact decide_eq_false (by omega))); exact VRd.mk rfl ⟨l.length - (j + 1), by omega, j + 1, by rw [st]; rfl, by rw [st]; rfl, by omega, rfl⟩)
      | some b =>
        rw [ho] at est
        have r1 := rless_a l[j].2.1 b.2.1
        (try conv=>whnf)<;>repeat'((first|exact sNo|refine sT ?_|refine sF ?_|((first|refine sD ?_ ?_|refine sE ?_ ?_|refine sN ?_ ?_|refine sG ?_ ?_)<;>intro ht<;>(first|(cases ht;done)|skip))|refine wr ?_|refine ix ?_|refine ati ?_|refine row ?_|refine app ?_|refine dr ?_|refine VAnd.mk ?_ ?_|exact VJe.mk rfl ⟨rfl,rfl⟩|refine .inl (slM ?_)|refine .inl (slO ?_)|refine slM ?_|refine slO ?_|refine slN ?_|refine slS ?_|refine swB (swM fun C hC=>?_)|refine sj ?_|refine .inl (sv ?_)|refine sv ?_|refine cl ?_|refine s3 ?_|refine az ?_|refine cf r1 ?_|refine cg r1 ?_|refine cz r1 ?_|fail)<;>(try conv=>whnf))
        all_goals first
          | (have st := est.trans (stepS_yes (by rw [hcand]; exact decide_eq_true (by omega)) (fun b hb => by cases hb; assumption)); exact VRd.mk rfl ⟨l.length - (j + 1), by omega, j + 1, by rw [st]; rfl, by rw [st]; rfl, by omega, rfl⟩)
          | (have st := est.trans (stepS_no1 (by rw [hcand]; exact decide_eq_false (by omega))); exact VRd.mk rfl ⟨l.length - (j + 1), by omega, j + 1, by rw [st]; rfl, by rw [st]; rfl, by omega, rfl⟩)
          | (have st := est.trans (stepS_no2 (by assumption)); exact VRd.mk rfl ⟨l.length - (j + 1), by omega, j + 1, by rw [st]; rfl, by rw [st]; rfl, by omega, rfl⟩)
    · have hg : A.getLast? = some (A[i0]'(by omega)) := by
        rw [List.getLast?_eq_getElem?, show A.length - 1 = i0 by omega, List.getElem?_eq_getElem (by omega)]
      have hcand : candE A l[j] = (decide (l[j].1.length = 0) && ltDot (A[i0]'(by omega)).1 l[j].2.1) := by
        unfold candE; rw [hg]
      have hi0 : ((i0 + 1 : Nat) : Int) - 1 = (i0 : Int) := by omega
      have r0 := rless_a (A[i0]'(by omega)).1 l[j].2.1
      cases ho : selS (candE A) ltE (l.take j) with
      | none =>
        rw [ho] at est
        (try conv=>whnf)<;>repeat'((first|exact sNo|refine sT ?_|refine sF ?_|((first|refine sD ?_ ?_|refine sE ?_ ?_|refine sN ?_ ?_|refine sG ?_ ?_)<;>intro ht<;>(first|(cases ht;done)|skip))|refine wr ?_|refine ix ?_|refine ati ?_|refine row ?_|refine app ?_|refine dr ?_|refine VAnd.mk ?_ ?_|exact VJe.mk rfl ⟨rfl,rfl⟩|refine .inl (slM ?_)|refine .inl (slO ?_)|refine slM ?_|refine slO ?_|refine slN ?_|refine slS ?_|refine swB (swM fun C hC=>?_)|refine sj ?_|refine .inl (sv ?_)|refine sv ?_|refine cl ?_|refine s3 ?_|refine az ?_|refine cf r0 ?_|refine cg r0 ?_|refine cz r0 ?_|fail)<;>(try conv=>whnf))
        all_goals first
          | (have st := est.trans (stepS_yes (by rw [hcand, Bool.and_eq_true]; exact ⟨decide_eq_true (by omega), by assumption⟩) (fun b hb => by cases hb)); exact VRd.mk rfl ⟨l.length - (j + 1), by omega, j + 1, by rw [st]; rfl, by rw [st]; rfl, by omega, rfl⟩)
          | (have st := est.trans (stepS_no1 (by rw [hcand, Bool.and_eq_false_iff]; first | exact .inl (decide_eq_false (by omega)) | exact .inr (by assumption))); exact VRd.mk rfl ⟨l.length - (j + 1), by omega, j + 1, by rw [st]; rfl, by rw [st]; rfl, by omega, rfl⟩)
      | some b =>
        rw [ho] at est
        have r1 := rless_a l[j].2.1 b.2.1
        (try conv=>whnf)<;>repeat'((first|exact sNo|refine sT ?_|refine sF ?_|((first|refine sD ?_ ?_|refine sE ?_ ?_|refine sN ?_ ?_|refine sG ?_ ?_)<;>intro ht<;>(first|(cases ht;done)|skip))|refine wr ?_|refine ix ?_|refine ati ?_|refine row ?_|refine app ?_|refine dr ?_|refine VAnd.mk ?_ ?_|exact VJe.mk rfl ⟨rfl,rfl⟩|refine .inl (slM ?_)|refine .inl (slO ?_)|refine slM ?_|refine slO ?_|refine slN ?_|refine slS ?_|refine swB (swM fun C hC=>?_)|refine sj ?_|refine .inl (sv ?_)|refine sv ?_|refine cl ?_|refine s3 ?_|refine az ?_|refine cf r0 ?_|refine cg r0 ?_|refine cz r0 ?_|refine cf r1 ?_|refine cg r1 ?_|refine cz r1 ?_|fail)<;>(try conv=>whnf))
        all_goals first
          | (have st := est.trans (stepS_yes (by rw [hcand, Bool.and_eq_true]; exact ⟨decide_eq_true (by omega), by assumption⟩) (fun b hb => by cases hb; assumption)); exact VRd.mk rfl ⟨l.length - (j + 1), by omega, j + 1, by rw [st]; rfl, by rw [st]; rfl, by omega, rfl⟩)
          | (have st := est.trans (stepS_no1 (by rw [hcand, Bool.and_eq_false_iff]; first | exact .inl (decide_eq_false (by omega)) | exact .inr (by assumption))); exact VRd.mk rfl ⟨l.length - (j + 1), by omega, j + 1, by rw [st]; rfl, by rw [st]; rfl, by omega, rfl⟩)
          | (have st := est.trans (stepS_no2 (by assumption)); exact VRd.mk rfl ⟨l.length - (j + 1), by omega, j + 1, by rw [st]; rfl, by rw [st]; rfl, by omega, rfl⟩)
  · obtain rfl : j = l.length := by omega
    rw [List.take_length]
    cases ho : selS (candE A) ltE l with
    | some b =>
      rw [ho, Option.map_some] at hsel
      obtain ⟨hil, hb⟩ := List.getElem?_eq_some_iff.1 hsel.symm
      (try conv=>whnf)<;>repeat'((first|exact sNo|refine sT ?_|refine sF ?_|((first|refine sD ?_ ?_|refine sE ?_ ?_|refine sN ?_ ?_|refine sG ?_ ?_)<;>intro ht<;>(first|(cases ht;done)|skip))|refine wr ?_|refine ix ?_|refine ati ?_|refine row ?_|refine app ?_|refine dr ?_|refine VAnd.mk ?_ ?_|exact VJe.mk rfl ⟨rfl,rfl⟩|refine .inl (slM ?_)|refine .inl (slO ?_)|refine slM ?_|refine slO ?_|refine slN ?_|refine slS ?_|refine swB (swM fun C hC=>?_)|refine sj ?_|refine .inl (sv ?_)|refine sv ?_|refine cl ?_|refine s3 ?_|refine az ?_|fail)<;>(try conv=>whnf))
      refine VRd.mk rfl ⟨t.es.length - (i + 1), by omega, i + 1, rfl, ?_, by omega, rfl⟩
      rw [← take_snoc hil, ← hAe, List.map_append, hb]
      rfl
    | none =>
      rw [ho, Option.map_none] at hsel
      have hil := List.getElem?_eq_none_iff.1 hsel.symm
      obtain rfl : i = t.es.length := by omega
      rw [List.take_length] at hAe
      subst hAe
      have hel : t.es.length ≤ 1000000 := by omega
      generalize t.es = es at *
      (try conv=>whnf)<;>repeat'((first|exact sNo|refine sT ?_|refine sF ?_|((first|refine sD ?_ ?_|refine sE ?_ ?_|refine sN ?_ ?_|refine sG ?_ ?_)<;>intro ht<;>(first|(cases ht;done)|skip))|refine wr ?_|refine ix ?_|refine ati ?_|refine row ?_|refine app ?_|refine dr ?_|refine VAnd.mk ?_ ?_|exact VJe.mk rfl ⟨rfl,rfl⟩|refine .inl (slM ?_)|refine .inl (slO ?_)|refine slM ?_|refine slO ?_|refine slN ?_|refine slS ?_|refine swB (swM fun C hC=>?_)|refine sj ?_|refine .inl (sv ?_)|refine sv ?_|refine cl ?_|refine s3 ?_|refine az ?_|fail)<;>(try conv=>whnf))
      refine VLp.mk ⟨[.frz [3], .cell 1 1 56 3], [], [2, 3, 8], fun k vs h => ∃ i : Nat, vs = [.op 0 0, .op 1 0, .str (lastK t.ks i)] ∧ h = [.blk 0 [.nils, .nils] 25, .blk 1 [lstE entE es, .own 2 i] 25, .row 2 56 3 ((t.ks.take i).map kidE)] ∧ i ≤ t.ks.length ∧ k = t.ks.length - i, t.ks.length, ?_⟩
      conv => whnf
      refine ⟨⟨0, rfl, rfl, by omega, by omega⟩, ?_⟩
      rintro k vs h ⟨i, rfl, rfl, hi, rfl⟩
      have hsel := selK_eq hr hl hi
      have hund := fun h => lvT_und hr hl (i := i) h
      have hrk := fun h => rightT_child hr (i := i) h
      have hcx := fun (h : i < t.ks.length) => cntK_mem (List.getElem_mem h)
      have hlast : ∀ h : i < t.ks.length, lastK t.ks (i + 1) = t.ks[i].1 := fun h => by simp only [lastK]; rw [List.getElem?_eq_getElem h]
      have hkpos := fun h => (rightT_good hr (i := i) h).1
      generalize lastK t.ks i = L at *
      (try conv=>whnf)<;>repeat'((first|exact sNo|refine sT ?_|refine sF ?_|((first|refine sD ?_ ?_|refine sE ?_ ?_|refine sN ?_ ?_|refine sG ?_ ?_)<;>intro ht<;>(first|(cases ht;done)|skip))|refine wr ?_|refine ix ?_|refine ati ?_|refine row ?_|refine app ?_|refine dr ?_|refine VAnd.mk ?_ ?_|exact VJe.mk rfl ⟨rfl,rfl⟩|refine .inl (slM ?_)|refine .inl (slO ?_)|refine slM ?_|refine slO ?_|refine slN ?_|refine slS ?_|refine swB (swM fun C hC=>?_)|refine sj ?_|refine .inl (sv ?_)|refine sv ?_|refine cl ?_|refine s3 ?_|refine az ?_|fail)<;>(try conv=>whnf))
      refine VLp.mk ⟨[], [], [2, 3, 9, 77], fun k vs h => ∃ j : Nat, vs = [.op 0 0, .op 1 0, .str (bestK (selS (candK L) ltK (l.take j))), i64 j] ∧ h = [.blk 0 [.nils, .nils] 25, .blk 1 [lstE entE es, .own 2 i] 25, .row 2 56 3 ((t.ks.take i).map kidE)] ∧ j ≤ l.length ∧ k = l.length - j, l.length, ?_⟩
      conv => whnf
      refine ⟨⟨0, rfl, rfl, by omega, by omega⟩, ?_⟩
      rintro k vs h ⟨j, rfl, rfl, hj, rfl⟩
      by_cases hjn : j < l.length
      · have est := selS_take (c := candK L) (lt := ltK) hjn
        have hlen := hp l[j] (List.getElem_mem hjn)
        have hgt : ∀ (h : 0 < l[j].1.length) {v : Bool}, (!(Op.bytesLess (l[j].1[Int.toNat 0]'h).toList L.toList || (l[j].1[Int.toNat 0]'h).toList == L.toList)) = v → candK L l[j] = v := fun h v hv => by
          unfold candK
          rw [decide_eq_true h, Bool.true_and, headK_eq h, ← gtr_eq]
          exact hv
        have hz : ¬ 0 < l[j].1.length → candK L l[j] = false := fun h => by
          unfold candK
          rw [decide_eq_false h, Bool.false_and]
        cases ho : selS (candK L) ltK (l.take j) with
        | none =>
          rw [ho] at est
          (try conv=>whnf)<;>repeat'((first|exact sNo|refine sT ?_|refine sF ?_|((first|refine sD ?_ ?_|refine sE ?_ ?_|refine sN ?_ ?_|refine sG ?_ ?_)<;>intro ht<;>(first|(cases ht;done)|skip))|refine wr ?_|refine ix ?_|refine ati ?_|refine row ?_|refine app ?_|refine dr ?_|refine VAnd.mk ?_ ?_|exact VJe.mk rfl ⟨rfl,rfl⟩|refine .inl (slM ?_)|refine .inl (slO ?_)|refine slM ?_|refine slO ?_|refine slN ?_|refine slS ?_|refine swB (swM fun C hC=>?_)|refine sj ?_|refine .inl (sv ?_)|refine sv ?_|refine cl ?_|refine s3 ?_|refine az ?_|fail)<;>(try conv=>whnf))
          all_goals first
            | (have st := est.trans (stepS_yes (hgt (by omega) (by assumption)) (fun b hb => by cases hb)); exact VRd.mk rfl ⟨l.length - (j + 1), by omega, j + 1, by rw [st, bestK_some, headK_eq (by omega)]; rfl, rfl, by omega, rfl⟩)
            | (have st := est.trans (stepS_no1 (hgt (by omega) (by assumption))); exact VRd.mk rfl ⟨l.length - (j + 1), by omega, j + 1, by rw [st]; rfl, rfl, by omega, rfl⟩)
            | (have st := est.trans (stepS_no1 (hz (by omega))); exact VRd.mk rfl ⟨l.length - (j + 1), by omega, j + 1, by rw [st]; rfl, rfl, by omega, rfl⟩)
        | some b =>
          have hb : ¬ (bestK (some b)).toList = (⟨#[]⟩ : ByteArray).toList := sel_ne ho
          rw [ho] at est
          have hlt : ∀ (h : 0 < l[j].1.length) {v : Bool}, Op.bytesLess (l[j].1[Int.toNat 0]'h).toList (bestK (some b)).toList = v → ltK l[j] b = v := fun h v hv => by
            unfold ltK
            rw [headK_eq h]
            exact hv
          (try conv=>whnf)<;>repeat'((first|exact sNo|refine sT ?_|refine sF ?_|((first|refine sD ?_ ?_|refine sE ?_ ?_|refine sN ?_ ?_|refine sG ?_ ?_)<;>intro ht<;>(first|(cases ht;done)|skip))|refine wr ?_|refine ix ?_|refine ati ?_|refine row ?_|refine app ?_|refine dr ?_|refine VAnd.mk ?_ ?_|exact VJe.mk rfl ⟨rfl,rfl⟩|refine .inl (slM ?_)|refine .inl (slO ?_)|refine slM ?_|refine slO ?_|refine slN ?_|refine slS ?_|refine swB (swM fun C hC=>?_)|refine sj ?_|refine .inl (sv ?_)|refine sv ?_|refine cl ?_|refine s3 ?_|refine az ?_|fail)<;>(try conv=>whnf))
          all_goals first
            | exact absurd (by assumption) hb
            | (have st := est.trans (stepS_yes (hgt (by omega) (by assumption)) (fun b hb => by cases hb; exact hlt (by omega) (by assumption))); exact VRd.mk rfl ⟨l.length - (j + 1), by omega, j + 1, by rw [st, bestK_some, headK_eq (by omega)]; rfl, rfl, by omega, rfl⟩)
            | (have st := est.trans (stepS_no2 (hlt (by omega) (by assumption))); exact VRd.mk rfl ⟨l.length - (j + 1), by omega, j + 1, by rw [st]; rfl, rfl, by omega, rfl⟩)
            | (have st := est.trans (stepS_no1 (hgt (by omega) (by assumption))); exact VRd.mk rfl ⟨l.length - (j + 1), by omega, j + 1, by rw [st]; rfl, rfl, by omega, rfl⟩)
            | (have st := est.trans (stepS_no1 (hz (by omega))); exact VRd.mk rfl ⟨l.length - (j + 1), by omega, j + 1, by rw [st]; rfl, rfl, by omega, rfl⟩)
      · obtain rfl : j = l.length := by omega
        rw [List.take_length]
        cases ho : selS (candK L) ltK l with
        | none =>
          rw [ho, Option.map_none] at hsel
          have hil : t.ks.length ≤ i := by
            by_cases h : i < t.ks.length
            · rw [List.getElem?_eq_getElem h] at hsel; cases hsel
            · omega
          obtain rfl : i = t.ks.length := by omega
          rw [List.take_length]
          (try conv=>whnf)<;>repeat'((first|exact sNo|refine sT ?_|refine sF ?_|((first|refine sD ?_ ?_|refine sE ?_ ?_|refine sN ?_ ?_|refine sG ?_ ?_)<;>intro ht<;>(first|(cases ht;done)|skip))|refine wr ?_|refine ix ?_|refine ati ?_|refine row ?_|refine app ?_|refine dr ?_|refine VAnd.mk ?_ ?_|exact VJe.mk rfl ⟨rfl,rfl⟩|refine .inl (slM ?_)|refine .inl (slO ?_)|refine slM ?_|refine slO ?_|refine slN ?_|refine slS ?_|refine swB (swM fun C hC=>?_)|refine sj ?_|refine .inl (sv ?_)|refine sv ?_|refine cl ?_|refine s3 ?_|refine az ?_|fail)<;>(try conv=>whnf))
          all_goals rfl
        | some b =>
          have hb : ¬ (bestK (some b)).toList = (⟨#[]⟩ : ByteArray).toList := sel_ne (l := l) (j := l.length) (by rw [List.take_length]; exact ho)
          rw [ho, Option.map_some] at hsel
          have hil : i < t.ks.length := by
            by_cases h : i < t.ks.length
            · exact h
            · rw [List.getElem?_eq_none (by omega)] at hsel; cases hsel
          rw [List.getElem?_eq_getElem hil, Option.map_some, Option.some_inj] at hsel
          have r0 := under_a l (headK b) hn hp
          have r1 := ih t.ks[i].2 (undL (headK b) l) (hrk hil) (by rw [hsel]; exact hund hil) (Nat.le_trans (undL_len _ _) hn) (by have := hcx hil; omega) (undL_path hp)
          rw [bestK_some] at hb
          rw [bestK_some]
          have hla := hlast hil
          rw [← hsel] at hla
          have hsn : kidE t.ks[i] = [.str (headK b), lstE entE t.ks[i].2.es, lstE kidRow t.ks[i].2.ks] := by unfold kidE; rw [hsel]
          generalize headK b = K at *
          (try conv=>whnf)<;>repeat'((first|(refine drx [1005,1006,10] [] [] ?_;(try conv=>whnf);(fail_if_success (show False)))|exact sNo|refine sT ?_|refine sF ?_|((first|refine sD ?_ ?_|refine sE ?_ ?_|refine sN ?_ ?_|refine sG ?_ ?_)<;>intro ht<;>(first|(cases ht;done)|skip))|refine wr ?_|refine ix ?_|refine ati ?_|refine row ?_|refine app ?_|refine dr ?_|refine VAnd.mk ?_ ?_|exact VJe.mk rfl ⟨rfl,rfl⟩|refine .inl (slM ?_)|refine .inl (slO ?_)|refine slM ?_|refine slO ?_|refine slN ?_|refine slS ?_|refine swB (swM fun C hC=>?_)|refine sj ?_|refine .inl (sv ?_)|refine sv ?_|refine cl ?_|refine s3 ?_|refine az ?_|refine cp r0 ?_|refine cf r0 ?_|refine cg r0 ?_|refine cz r0 ?_|refine cp r1 ?_|refine cf r1 ?_|refine cg r1 ?_|refine cz r1 ?_|fail)<;>(try conv=>whnf))
          all_goals first
            | exact absurd (by assumption) hb
            | exact VRd.mk rfl ⟨t.ks.length - (i + 1), by omega, i + 1, by rw [hla], by rw [← take_snoc hil, List.map_append, List.map_singleton, hsn], by omega, rfl⟩
theorem build_a : ∀ (d : Nat) (t : Tr8) (l : List Leaf8), rightT d t = true → LvT l t → l.length ≤ 1000000 → cntT t ≤ 1000000 → (∀ x ∈ l, x.1.length ≤ 1000000) → AFnP Try.prog 41 [lstE leafE l] (.agg [lstE entE t.es, lstE kidRow t.ks])
  | 0, t, l, h, _, _, _, _ => by cases h
  | d + 1, t, l, h1, h2, h3, h4, h5 => build_step d (build_a d) t l h1 h2 h3 h4 h5
end Go.Proofs.Ytailblpjmgabjaa
