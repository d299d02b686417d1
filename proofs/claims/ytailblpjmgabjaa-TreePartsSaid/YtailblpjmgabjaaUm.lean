/- What is proved: chapter 08's law function TreeParts answers true. Conditions: none. -/
import Derived.Test.YtailblpjmgabjaaUl
namespace Go.Proofs.Ytailblpjmgabjaa
open Go.RowKit
set_option linter.unusedVariables false
set_option linter.unusedSimpArgs false
set_option maxRecDepth 100000
set_option maxHeartbeats 16000000
theorem right_pairs {d : Nat} {t : Tr8} (h : rightT (d + 1) t = true) : t.ks.Pairwise (fun a b => ltKey a.1 b.1 = true) := by
  rw [List.pairwise_iff_getElem]
  intro i j hi hj hij
  exact ks_lt h hij hj
theorem right_of {d : Nat} {es : List Ent8} {ks : List (ByteArray × Tr8)} (he : entsOk es = true) (hk : ∀ y ∈ ks, okKey y.1 = true ∧ emptyT y.2 = false ∧ rightT d y.2 = true) (hp : ks.Pairwise (fun a b => ltKey a.1 b.1 = true)) : rightT (d + 1) (.mk es ks) = true := by
  refine rightT_yes he fun i hi => ?_
  have hi : i < ks.length := hi
  show goodK (rightT d) ks i = true
  rw [goodK_eq hi]
  obtain ⟨h1, h2, h3⟩ := hk _ (List.getElem_mem hi)
  rw [h1, h2, h3]
  rcases Nat.eq_zero_or_pos i with rfl | h0
  · rfl
  · have := List.pairwise_iff_getElem.1 hp (i - 1) i (by omega) hi (by omega)
    rw [this]; simp
theorem right_filter {d : Nat} {t : Tr8} (h : rightT (d + 1) t = true) {es : List Ent8} (he : entsOk es = true) (q : ByteArray × Tr8 → Bool) : rightT (d + 1) (.mk es (t.ks.filter q)) = true := by
  refine right_of he (fun y hy => ?_) ((right_pairs h).filter q)
  obtain ⟨i, hi, rfl⟩ := List.getElem_of_mem (List.mem_filter.1 hy).1
  obtain ⟨h1, _, h3, h4⟩ := rightT_good h hi
  exact ⟨h1, h3, h4⟩
theorem right_ents {d : Nat} {t : Tr8} (h : rightT (d + 1) t = true) : entsOk t.es = true := by
  rw [rightT, Bool.and_eq_true] at h
  exact h.1
theorem cntK_filter (q : ByteArray × Tr8 → Bool) : ∀ ks : List (ByteArray × Tr8), cntK (ks.filter q) ≤ cntK ks
  | [] => Nat.le_refl _
  | y :: r => by
    have ih := cntK_filter q r
    cases hq : q y <;> simp only [List.filter, hq, cntK] <;> omega
theorem lvT_in {t : Tr8} (keys : List ByteArray) : LvT ((belowT t []).filter (isIn keys)) (.mk [] (t.ks.filter (inKid keys))) := fun x => by
  rw [List.mem_filter, mem_below, mem_below]
  constructor
  · rintro ⟨⟨h1, _⟩ | ⟨y, hy, ps, h1, h2⟩, h3⟩
    · unfold isIn at h3; rw [h1] at h3; simp at h3
    · refine .inr ⟨y, List.mem_filter.2 ⟨hy, ?_⟩, ps, h1, h2⟩
      unfold isIn headK at h3
      rw [h1] at h3
      simpa [inKid] using h3
  · rintro (⟨_, h2⟩ | ⟨y, hy, ps, h1, h2⟩)
    · cases h2
    · obtain ⟨hy1, hy2⟩ := List.mem_filter.1 hy
      refine ⟨.inr ⟨y, hy1, ps, h1, h2⟩, ?_⟩
      unfold isIn headK
      rw [h1]
      simpa [inKid] using hy2
theorem lvT_out {t : Tr8} (keys : List ByteArray) : LvT ((belowT t []).filter (notIn keys)) (.mk t.es (t.ks.filter (outKid keys))) := fun x => by
  rw [List.mem_filter, mem_below, mem_below]
  constructor
  · rintro ⟨h1 | ⟨y, hy, ps, h1, h2⟩, h3⟩
    · exact .inl h1
    · refine .inr ⟨y, List.mem_filter.2 ⟨hy, ?_⟩, ps, h1, h2⟩
      unfold notIn isIn headK at h3
      rw [h1] at h3
      simpa [outKid] using h3
  · rintro (⟨h1, h2⟩ | ⟨y, hy, ps, h1, h2⟩)
    · exact ⟨.inl ⟨h1, h2⟩, by unfold notIn isIn; rw [h1]; rfl⟩
    · obtain ⟨hy1, hy2⟩ := List.mem_filter.1 hy
      refine ⟨.inr ⟨y, hy1, ps, h1, h2⟩, ?_⟩
      unfold notIn isIn headK
      rw [h1]
      simpa [outKid] using hy2
theorem allK_parts (keys : List ByteArray) : ∀ ks : List (ByteArray × Tr8), (allK (ks.filter (inKid keys))).length + (allK (ks.filter (outKid keys))).length = (allK ks).length
  | [] => rfl
  | y :: r => by
    have ih := allK_parts keys r
    have ho : outKid keys y = !inKid keys y := rfl
    cases hq : inKid keys y
    · rw [hq] at ho
      simp only [List.filter, hq, ho, allK, List.length_append, Bool.not_false]
      omega
    · rw [hq] at ho
      simp only [List.filter, hq, ho, allK, List.length_append, Bool.not_true]
      omega
theorem lawParts_a (t : Tr8) (ht : bndT t) (keys : List ByteArray) : AFnP Try.prog 9 [.agg [lstE entE t.es, lstE kidRow t.ks], lstE strE keys] (.bool true) := by
  refine afnp_in ty_ok Try.call9 Try.func9 rfl rfl (by decide +kernel) ?_
  cases h1 : decide (0 ≤ roomT 8 t 60)
  · have s1 := small_p t 60 ht (by omega) (by omega) h1
    (try conv=>whnf)<;>repeat'((first|exact sNo|refine sT ?_|refine sF ?_|((first|refine sD ?_ ?_|refine sE ?_ ?_|refine sN ?_ ?_|refine sG ?_ ?_)<;>intro ht<;>(first|(cases ht;done)|skip))|refine wr ?_|refine ix ?_|refine ati ?_|refine row ?_|refine app ?_|refine dr ?_|refine VAnd.mk ?_ ?_|exact VJe.mk rfl ⟨rfl,rfl⟩|refine .inl (slM ?_)|refine .inl (slO ?_)|refine slM ?_|refine slO ?_|refine slN ?_|refine slS ?_|refine swB (swM fun C hC=>?_)|refine sj ?_|refine .inl (sv ?_)|refine sv ?_|refine cl ?_|refine s3 ?_|refine az ?_|refine cf awake_a ?_|refine cg awake_a ?_|refine cz awake_a ?_|refine cf s1 ?_|refine cg s1 ?_|refine cz s1 ?_|fail)<;>(try conv=>whnf))
  · have s1 := small_p t 60 ht (by omega) (by omega) h1
    have c1 := small_cnt (by omega) h1
    cases h2 : decide (keys.length ≤ 20)
    · have s2 := few_p h2
      (try conv=>whnf)<;>repeat'((first|exact sNo|refine sT ?_|refine sF ?_|((first|refine sD ?_ ?_|refine sE ?_ ?_|refine sN ?_ ?_|refine sG ?_ ?_)<;>intro ht<;>(first|(cases ht;done)|skip))|refine wr ?_|refine ix ?_|refine ati ?_|refine row ?_|refine app ?_|refine dr ?_|refine VAnd.mk ?_ ?_|exact VJe.mk rfl ⟨rfl,rfl⟩|refine .inl (slM ?_)|refine .inl (slO ?_)|refine slM ?_|refine slO ?_|refine slN ?_|refine slS ?_|refine swB (swM fun C hC=>?_)|refine sj ?_|refine .inl (sv ?_)|refine sv ?_|refine cl ?_|refine s3 ?_|refine az ?_|refine cf awake_a ?_|refine cg awake_a ?_|refine cz awake_a ?_|refine cf s1 ?_|refine cg s1 ?_|refine cz s1 ?_|refine cf s2 ?_|refine cg s2 ?_|refine cz s2 ?_|fail)<;>(try conv=>whnf))
    · have s2 := few_p h2
      have hn := of_decide_eq_true h2
      have q1 := rtright_a t (by omega)
      cases hr : rightT 5 t
      · have r1 := only_f t keys hr (by omega)
        have r2 := without_f t keys hr (by omega)
        rw [hr] at q1
        (try conv=>whnf)<;>repeat'((first|(refine .inr (.inr (VJn.mk ⟨[1002,1005,2000],[],[5,6],3,fun vs h => vs = [.op 1 0,.op 2 0] ∧ h = [.blk 0 [lstE entE t.es,lstE kidRow t.ks] 25,.blk 1 [.lst 0 [],.lst 0 []] 25,.blk 2 [.lst 0 [],.lst 0 []] 25],?_⟩));(conv => whnf);refine ⟨by decide +kernel,?_,?_⟩;rotate_left;rintro _ _ ⟨rfl,rfl⟩;rotate_right)|exact sNo|refine sT ?_|refine sF ?_|((first|refine sD ?_ ?_|refine sE ?_ ?_|refine sN ?_ ?_|refine sG ?_ ?_)<;>intro ht<;>(first|(cases ht;done)|skip))|refine wr ?_|refine ix ?_|refine ati ?_|refine row ?_|refine app ?_|refine dr ?_|refine VAnd.mk ?_ ?_|exact VJe.mk rfl ⟨rfl,rfl⟩|refine .inl (slM ?_)|refine .inl (slO ?_)|refine slM ?_|refine slO ?_|refine slN ?_|refine slS ?_|refine swB (swM fun C hC=>?_)|refine sj ?_|refine .inl (sv ?_)|refine sv ?_|refine cl ?_|refine s3 ?_|refine az ?_|refine cp awake_a ?_|refine cf awake_a ?_|refine cg awake_a ?_|refine cz awake_a ?_|refine cp s1 ?_|refine cf s1 ?_|refine cg s1 ?_|refine cz s1 ?_|refine cp s2 ?_|refine cf s2 ?_|refine cg s2 ?_|refine cz s2 ?_|refine cp q1 ?_|refine cf q1 ?_|refine cg q1 ?_|refine cz q1 ?_|refine cp r1 ?_|refine cf r1 ?_|refine cg r1 ?_|refine cz r1 ?_|refine cp r2 ?_|refine cf r2 ?_|refine cg r2 ?_|refine cz r2 ?_|refine cp emptyE_a ?_|refine cf emptyE_a ?_|refine cg emptyE_a ?_|refine cz emptyE_a ?_|fail)<;>(try conv=>whnf))
      · rw [hr] at q1
        have r1 := only_t t keys hr (by omega) (by omega)
        have r2 := without_t t keys hr (by omega) (by omega)
        have hcnt := cntT_eq t
        have f1 := cntK_filter (inKid keys) t.ks
        have f2 := cntK_filter (outKid keys) t.ks
        have f3 := List.length_filter_le (inKid keys) t.ks
        have f4 := List.length_filter_le (outKid keys) t.ks
        have g1 := right_filter hr (es := []) rfl (inKid keys)
        have g2 := right_filter hr (right_ents hr) (outKid keys)
        have ca : cntT (.mk [] (t.ks.filter (inKid keys))) ≤ 60 := by
          rw [cntT_eq]
          show 0 + (t.ks.filter (inKid keys)).length + cntK (t.ks.filter (inKid keys)) ≤ 60
          omega
        have cb : cntT (.mk t.es (t.ks.filter (outKid keys))) ≤ 60 := by
          rw [cntT_eq]
          show t.es.length + (t.ks.filter (outKid keys)).length + cntK (t.ks.filter (outKid keys)) ≤ 60
          omega
        have l1 := belowT_len t []
        have l2 := allT_len t
        have hp : ∀ x ∈ belowT t [], x.1.length ≤ 1000000 := fun x hx => by have := below_path 5 t hr x hx; omega
        have r0 := leaves_a 5 t (by omega) hr (by omega)
        have k1 := List.length_filter_le (isIn keys) (belowT t [])
        have k2 := List.length_filter_le (notIn keys) (belowT t [])
        have ra := build_a 5 _ _ g1 (lvT_in (t := t) keys) (by omega) (by omega) (fun x hx => hp x (List.mem_filter.1 hx).1)
        have rb := build_a 5 _ _ g2 (lvT_out (t := t) keys) (by omega) (by omega) (fun x hx => hp x (List.mem_filter.1 hx).1)
        rw [kidRow_fun] at r0 ra rb
        have r3 := ronly_a (belowT t []) t (.mk [] (t.ks.filter (inKid keys))) (.mk t.es (t.ks.filter (outKid keys))) keys (by omega) (by omega) hp r0 ra rb
        rw [← kidRow_fun] at r3
        have sa := same_p 5 (deepT_le 5 _ g1) (by omega) (by omega) (sameT_refl 5 _ (deepT_le 5 _ g1))
        have sb := same_p 5 (deepT_le 5 _ g2) (by omega) (by omega) (sameT_refl 5 _ (deepT_le 5 _ g2))
        have za := size_t _ g1 (by omega)
        have zb := size_t _ g2 (by omega)
        have zt := size_t t hr (by omega)
        have hal := allK_parts keys t.ks
        have za : AFnP Try.prog 22 [.agg [.lst 0 [], lstE kidRow (t.ks.filter (inKid keys))]] (i64 ((allK (t.ks.filter (inKid keys))).length : Nat)) := za
        have zb : AFnP Try.prog 22 [.agg [lstE entE t.es, lstE kidRow (t.ks.filter (outKid keys))]] (i64 ((t.es.length + (allK (t.ks.filter (outKid keys))).length : Nat))) := by
          rw [allT_eq, List.length_append, List.length_map] at zb
          exact zb
        rw [allT_eq, List.length_append, List.length_map] at zt
        have sa : AFnP Try.prog 17 [.agg [.lst 0 [], lstE kidRow (t.ks.filter (inKid keys))], .agg [.lst 0 [], lstE kidRow (t.ks.filter (inKid keys))]] (.bool true) := sa
        have sb : AFnP Try.prog 17 [.agg [lstE entE t.es, lstE kidRow (t.ks.filter (outKid keys))], .agg [lstE entE t.es, lstE kidRow (t.ks.filter (outKid keys))]] (.bool true) := sb
        have r3 : AFnP Try.prog 30 [.agg [lstE entE t.es, lstE kidRow t.ks], lstE strE keys] (.tup [.agg [.lst 0 [], lstE kidRow (t.ks.filter (inKid keys))], .agg [lstE entE t.es, lstE kidRow (t.ks.filter (outKid keys))]]) := r3
        clear ca cb g1 g2 ra rb k1 k2
        generalize t.ks.filter (inKid keys) = A at *
        generalize t.ks.filter (outKid keys) = B at *
        rw [← hal] at zt
        have hA := allK_len A
        have hB := allK_len B
        generalize (allK A).length = nA at *
        generalize (allK B).length = nB at *
        (try conv=>whnf)<;>repeat'((first|(refine .inr (.inr (VJn.mk ⟨[1002,1005,2000],[],[5,6],3,fun vs h => vs = [.op 1 0,.op 2 0] ∧ h = [.blk 0 [lstE entE t.es,lstE kidRow t.ks] 25,.blk 1 [.lst 0 [],lstE kidRow A] 25,.blk 2 [lstE entE t.es,lstE kidRow B] 25],?_⟩));(conv => whnf);refine ⟨by decide +kernel,(?_ : vcF _ _ _ _ _ _ _ ⟨_,_,1⟩),?_⟩;rotate_left;rintro _ _ ⟨rfl,rfl⟩;rotate_right)|(refine pr ?_;(try conv=>whnf);(fail_if_success (show False)))|exact sNo|refine sT ?_|refine sF ?_|((first|refine sD ?_ ?_|refine sE ?_ ?_|refine sN ?_ ?_|refine sG ?_ ?_)<;>intro ht<;>(first|(cases ht;done)|skip))|refine wr ?_|refine ix ?_|refine ati ?_|refine row ?_|refine app ?_|refine dr ?_|refine VAnd.mk ?_ ?_|exact VJe.mk rfl ⟨rfl,rfl⟩|refine .inl (slM ?_)|refine .inl (slO ?_)|refine slM ?_|refine slO ?_|refine slN ?_|refine slS ?_|refine swB (swM fun C hC=>?_)|refine sj ?_|refine .inl (sv ?_)|refine sv ?_|refine cl ?_|refine s3 ?_|refine az ?_|refine cp awake_a ?_|refine cf awake_a ?_|refine cg awake_a ?_|refine cz awake_a ?_|refine cp s1 ?_|refine cf s1 ?_|refine cg s1 ?_|refine cz s1 ?_|refine cp s2 ?_|refine cf s2 ?_|refine cg s2 ?_|refine cz s2 ?_|refine cp q1 ?_|refine cf q1 ?_|refine cg q1 ?_|refine cz q1 ?_|refine cp r1 ?_|refine cf r1 ?_|refine cg r1 ?_|refine cz r1 ?_|refine cp r2 ?_|refine cf r2 ?_|refine cg r2 ?_|refine cz r2 ?_|refine cp r3 ?_|refine cf r3 ?_|refine cg r3 ?_|refine cz r3 ?_|refine cp sa ?_|refine cf sa ?_|refine cg sa ?_|refine cz sa ?_|refine cp sb ?_|refine cf sb ?_|refine cg sb ?_|refine cz sb ?_|refine cp za ?_|refine cf za ?_|refine cg za ?_|refine cz za ?_|refine cp zb ?_|refine cf zb ?_|refine cg zb ?_|refine cz zb ?_|refine cp zt ?_|refine cf zt ?_|refine cg zt ?_|refine cz zt ?_|fail)<;>(try conv=>whnf))
        all_goals rfl
end Go.Proofs.Ytailblpjmgabjaa
