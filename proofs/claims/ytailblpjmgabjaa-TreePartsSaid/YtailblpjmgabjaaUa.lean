/- What is proved: what Under of chapter 08's reference answers. Conditions: none. -/
import Derived.Test.YtailblpjmgabjaaTv
import Derived.Test.YtailblpjmgabjaaTi
namespace Go.Proofs.Ytailblpjmgabjaa
open Go.RowKit
set_option linter.unusedVariables false
set_option linter.unusedSimpArgs false
set_option maxRecDepth 100000
set_option maxHeartbeats 16000000
def undX (key : ByteArray) (x : Leaf8) : Option Leaf8 :=
  match x.1 with
  | [] => none
  | p :: ps => if eqKey p key = true then some (ps, x.2) else none
def undL (key : ByteArray) (l : List Leaf8) : List Leaf8 := l.filterMap (undX key)
theorem undX_none0 {key : ByteArray} {x : Leaf8} (h : x.1.length = 0) : undX key x = none := by
  unfold undX; rw [List.eq_nil_of_length_eq_zero h]
theorem undX_none1 {key : ByteArray} {x : Leaf8} (h : 0 < x.1.length) (hk : ¬ (x.1[0]'h).toList = key.toList) : undX key x = none := by
  unfold undX
  rcases x with ⟨_ | ⟨p, ps⟩, e⟩
  · rfl
  · exact if_neg (by simpa [eqKey] using hk)
theorem undX_some {key : ByteArray} {x : Leaf8} (h : 0 < x.1.length) (hk : (x.1[0]'h).toList = key.toList) : undX key x = some (x.1.tail, x.2) := by
  unfold undX
  rcases x with ⟨_ | ⟨p, ps⟩, e⟩
  · cases h
  · exact if_pos (by simpa [eqKey] using hk)
theorem undL_take {key : ByteArray} {l : List Leaf8} {i : Nat} (h : i < l.length) : undL key (l.take (i + 1)) = undL key (l.take i) ++ (undX key l[i]).toList := by
  unfold undL
  rw [List.take_succ_eq_append_getElem h, List.filterMap_append]
  cases hx : undX key l[i] <;> simp [hx]
theorem undL_len (key : ByteArray) (l : List Leaf8) : (undL key l).length ≤ l.length := List.length_filterMap_le _ _
theorem under_a (l : List Leaf8) (key : ByteArray) (hn : l.length ≤ 1000000) (hp : ∀ x ∈ l, x.1.length ≤ 1000000) : AFnP Try.prog 40 [lstE leafE l, .str key] (lstE leafE (undL key l)) := by
  refine afnp_in ty_ok Try.call40 Try.func40 rfl rfl (by decide +kernel) ?_
  (try conv=>whnf)<;>repeat'((first|exact sNo|refine sT ?_|refine sF ?_|((first|refine sD ?_ ?_|refine sE ?_ ?_|refine sN ?_ ?_|refine sG ?_ ?_)<;>intro ht<;>(first|(cases ht;done)|skip))|refine wr ?_|refine ix ?_|refine ati ?_|refine row ?_|refine app ?_|refine dr ?_|refine VAnd.mk ?_ ?_|exact VJe.mk rfl ⟨rfl,rfl⟩|refine .inl (slM ?_)|refine .inl (slO ?_)|refine slM ?_|refine slO ?_|refine slN ?_|refine slS ?_|refine swB (swM fun C hC=>?_)|refine sj ?_|refine .inl (sv ?_)|refine sv ?_|refine cl ?_|refine s3 ?_|refine az ?_|fail)<;>(try conv=>whnf))
  refine VLp.mk ⟨[.slot 5 70 5], [], [5, 9], fun k vs h => ∃ i : Nat, vs = [.own 0 (undL key (l.take i)).length, i64 i] ∧ h = [.row 0 70 5 ((undL key (l.take i)).map leafE)] ∧ i ≤ l.length ∧ k = l.length - i, l.length, ?_⟩
  conv => whnf
  refine ⟨⟨0, rfl, rfl, by omega, by omega⟩, ?_⟩
  rintro k vs h ⟨i, rfl, rfl, hi, rfl⟩
  by_cases hin : i < l.length
  · have hlen := hp l[i] (List.getElem_mem hin)
    have e := undL_take (key := key) hin
    have l0 := undL_len key (l.take i)
    rw [List.length_take] at l0
    have x0 := @undX_none0 key l[i]
    have x1 := @undX_none1 key l[i]
    have x2 := @undX_some key l[i]
    generalize undL key (l.take i) = A at *
    (try conv=>whnf)<;>repeat'((first|exact sNo|refine sT ?_|refine sF ?_|((first|refine sD ?_ ?_|refine sE ?_ ?_|refine sN ?_ ?_|refine sG ?_ ?_)<;>intro ht<;>(first|(cases ht;done)|skip))|refine wr ?_|refine ix ?_|refine ati ?_|refine row ?_|refine app ?_|refine dr ?_|refine VAnd.mk ?_ ?_|exact VJe.mk rfl ⟨rfl,rfl⟩|refine .inl (slM ?_)|refine .inl (slO ?_)|refine slM ?_|refine slO ?_|refine slN ?_|refine slS ?_|refine swB (swM fun C hC=>?_)|refine sj ?_|refine .inl (sv ?_)|refine sv ?_|refine cl ?_|refine s3 ?_|refine az ?_|fail)<;>(try conv=>whnf))
    all_goals first
      | (have x2 := x2 (by omega) (by assumption)
         exact VRd.mk rfl ⟨l.length - (i + 1), by omega, i + 1, by rw [e, x2]; simp [i64], by rw [e, x2]; simp [leafE, lstE, entE], by omega, rfl⟩)
      | (have x1 := x1 (by omega) (by assumption)
         exact VRd.mk rfl ⟨l.length - (i + 1), by omega, i + 1, by rw [e, x1]; simp [i64], by rw [e, x1]; simp, by omega, rfl⟩)
      | (have x0 := x0 (by omega)
         exact VRd.mk rfl ⟨l.length - (i + 1), by omega, i + 1, by rw [e, x0]; simp [i64], by rw [e, x0]; simp, by omega, rfl⟩)
  · obtain rfl : i = l.length := by omega
    rw [List.take_length]
    (try conv=>whnf)<;>repeat'((first|exact sNo|refine sT ?_|refine sF ?_|((first|refine sD ?_ ?_|refine sE ?_ ?_|refine sN ?_ ?_|refine sG ?_ ?_)<;>intro ht<;>(first|(cases ht;done)|skip))|refine wr ?_|refine ix ?_|refine ati ?_|refine row ?_|refine app ?_|refine dr ?_|refine VAnd.mk ?_ ?_|exact VJe.mk rfl ⟨rfl,rfl⟩|refine .inl (slM ?_)|refine .inl (slO ?_)|refine slM ?_|refine slO ?_|refine slN ?_|refine slS ?_|refine swB (swM fun C hC=>?_)|refine sj ?_|refine .inl (sv ?_)|refine sv ?_|refine cl ?_|refine s3 ?_|refine az ?_|fail)<;>(try conv=>whnf))
    all_goals rfl
end Go.Proofs.Ytailblpjmgabjaa
