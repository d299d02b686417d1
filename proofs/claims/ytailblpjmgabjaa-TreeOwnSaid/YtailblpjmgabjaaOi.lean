/- What is proved: an arena for a whole function; the reference's Clone answers into the arena. Conditions: none. -/
import Derived.Test.YtailblpjmgabjaaOs
namespace Go.Proofs.Ytailblpjmgabjaa
open Go.RowKit
set_option linter.unusedVariables false
set_option linter.unusedSimpArgs false
set_option maxRecDepth 100000
set_option maxHeartbeats 16000000
/-- an arena for a function that answers what lies in no memory -/
theorem AFnP.arena {P : Program} {f : FuncId} {args : List AV} {r : AV} {u : Value} (h : AFn P f args [.bag 0 []] (fun r' h' => r' = r ∧ ∃ Q, h' = [.bag 0 Q])) (hu : flatV r = some u) : AFnP P f args r := by
  intro H vs hvs
  have hvs2 : VL ⟨H, fun _ => 0, fun _ => .nilFunc, 1⟩ args vs := VL.mono hvs ⟨Hp.le.refl _, Nat.zero_le _, fun i hi => absurd hi (Nat.not_lt_zero i), fun i hi => absurd hi (Nat.not_lt_zero i)⟩
  obtain ⟨g1, g2⟩ := h ⟨H, fun _ => 0, fun _ => .nilFunc, 1⟩ vs [.bag []] rfl hvs2 (by simp only [VH, VP]; exact ⟨_, _, rfl, ⟨Nat.zero_lt_one, rfl⟩, rfl⟩)
  refine ⟨g1, fun w hs => ?_⟩
  have hno : ∀ p ∈ ([.bag []] : List Piece), ∀ b, ¬ p.hasB b := fun p hm b hb => by
    rw [List.mem_singleton] at hm
    subst hm
    obtain ⟨x, hx, _⟩ := hb
    cases hx
  have hs2 : Sees ⟨w, H, ownB [.bag []]⟩ H [.bag []] w := by
    rw [ownB_nilbag]
    refine ⟨hs.os, hs.tape, hs.output, hs.size, hs.keep, hs.le0, hs.le, hs.new, fun p hm => ?_, fun p hm b hb => absurd hb (hno p hm b), List.pairwise_singleton _ _, fun p hm b hb => absurd hb (hno p hm b)⟩
    rw [List.mem_singleton] at hm
    subst hm
    exact ⟨fun r hr => (by cases hr), List.Pairwise.nil⟩
  refine (g2 w hs2).mono ?_
  rintro x w' ⟨v, H', O, hx, hse, E', r', h', rfl, hE, hv, hh', hn, rfl, Q, rfl⟩
  rw [ownB_nilbag] at hse
  have h4 := (flatV_spec _ r' u hu).2 v hv
  subst h4
  exact ⟨v, E'.H, O, hx, hse, (flatV_spec _ r' v hu).1⟩
theorem rcloneA : ∀ (n : Nat) (t : Tr8), deepT t ≤ n → cntT t ≤ 1000000 → ∀ Ps, AFn Try.prog 26 [.agg [lstE entE t.es, lstE kidRow t.ks]] [.bag 0 Ps] (AnsT t Ps)
  | 0, t, hd, _, _ => by
    rw [deepT_eq t] at hd
    omega
  | n + 1, t, hd, hc, Ps => by
    have ih := rcloneA n
    refine AFn.tree ?_
    rw [kidRow_fun]
    refine afn_in ty_ok Try.call26 Try.func26 rfl rfl (by decide +kernel) ?_
    have hcnt := cntT_eq t
    (try conv=>whnf)<;>repeat'((first|exact sNo|refine sT ?_|refine sF ?_|((first|refine sD ?_ ?_|refine sE ?_ ?_|refine sN ?_ ?_|refine sG ?_ ?_)<;>intro ht<;>(first|(cases ht;done)|skip))|refine wr ?_|refine ix ?_|refine ati ?_|refine row ?_|refine app ?_|refine dr ?_|refine VAnd.mk ?_ ?_|exact VJe.mk rfl ⟨rfl,rfl⟩|refine .inl (slM ?_)|refine .inl (slO ?_)|refine slM ?_|refine slO ?_|refine slN ?_|refine slS ?_|refine swB (swM fun C hC=>?_)|refine sj ?_|refine .inl (sv ?_)|refine sv ?_|refine cl ?_|refine s3 ?_|refine az ?_|refine rm ?_|refine VBs.own ?_|fail)<;>(try conv=>whnf))
    refine VLp.mk ⟨[.cell 3 1 56 3, .frz [1]], [], [2, 3, 14], fun k vs h => ∃ (i : Nat) (xs : List Kd3) (Q Q' : List RowD), vs = [.op 1 0, .op 2 0, i64 i] ∧ h = [.bag 0 Q', .blk 1 [.nils, .nils] 25, .blk 2 [.own 3 t.es.length, .own 4 xs.length] 25, .row 3 63 4 (t.es.map entE), .row 4 56 3 (xs.map kdE)] ∧ i ≤ t.ks.length ∧ k = t.ks.length - i ∧ Q'.Perm (Q ++ Ps) ∧ OwnK (t.ks.take i) xs Q ∧ xs.length = i, t.ks.length, ?_⟩
    conv => whnf
    refine ⟨⟨0, [], [], Ps, rfl, by rw [Nat.zero_add] <;> rfl, by omega, by omega, List.Perm.refl _, by rw [List.take_zero, OwnK]; exact ⟨rfl, rfl⟩, rfl⟩, ?_⟩
    rintro k vs h ⟨i, xs, Q, Q', rfl, rfl, hi, rfl, hp, ho, hx⟩
    by_cases hin : i < t.ks.length
    · have hcx := cntK_mem (List.getElem_mem hin)
      have hkd := deepT_kid (List.getElem_mem hin)
      have r := ih t.ks[i].2 (by omega) (by omega) Q'
      (try conv=>whnf)<;>repeat'((first|(refine drx [1,14,2000] [3,7,9,13] [] ?_;(try conv=>whnf);(fail_if_success (show False)))|exact sNo|refine sT ?_|refine sF ?_|((first|refine sD ?_ ?_|refine sE ?_ ?_|refine sN ?_ ?_|refine sG ?_ ?_)<;>intro ht<;>(first|(cases ht;done)|skip))|refine wr ?_|refine ix ?_|refine ati ?_|refine row ?_|refine app ?_|refine dr ?_|refine VAnd.mk ?_ ?_|exact VJe.mk rfl ⟨rfl,rfl⟩|refine .inl (slM ?_)|refine .inl (slO ?_)|refine slM ?_|refine slO ?_|refine slN ?_|refine slS ?_|refine swB (swM fun C hC=>?_)|refine sj ?_|refine .inl (sv ?_)|refine sv ?_|refine cl ?_|refine s3 ?_|refine az ?_|refine rm ?_|refine VBs.own ?_|(refine ca r ?_;rintro r h' ⟨a,b,Qi,Qi',rfl,rfl,hpi,hoi⟩)|fail)<;>(try conv=>whnf))
      all_goals exact VRd.mk rfl ⟨t.ks.length - (i + 1), by omega, i + 1, xs ++ [(t.ks[i].1, a, b)], Q ++ Qi, Qi', rfl, by simp [kdE], by omega, rfl, (hpi.trans (hp.append_left _)).trans (by rw [← List.append_assoc]; exact List.perm_append_comm.append_right _), by rw [← take_snoc hin]; exact OwnK_snoc ho hoi, by simp [hx]⟩
    · obtain rfl : i = t.ks.length := by omega
      rw [List.take_length] at ho
      (try conv=>whnf)<;>repeat'((first|exact sNo|refine sT ?_|refine sF ?_|((first|refine sD ?_ ?_|refine sE ?_ ?_|refine sN ?_ ?_|refine sG ?_ ?_)<;>intro ht<;>(first|(cases ht;done)|skip))|refine wr ?_|refine ix ?_|refine ati ?_|refine row ?_|refine app ?_|refine dr ?_|refine VAnd.mk ?_ ?_|exact VJe.mk rfl ⟨rfl,rfl⟩|refine .inl (slM ?_)|refine .inl (slO ?_)|refine slM ?_|refine slO ?_|refine slN ?_|refine slS ?_|refine swB (swM fun C hC=>?_)|refine sj ?_|refine .inl (sv ?_)|refine sv ?_|refine cl ?_|refine s3 ?_|refine az ?_|refine rm ?_|refine VBs.own ?_|fail)<;>(try conv=>whnf))
      all_goals exact VRt.mk rfl ⟨xs, Q, Q', by rw [hx] <;> rfl, rfl, hp, ho, hx⟩
end Go.Proofs.Ytailblpjmgabjaa
