/- What is proved: what Under of chapter 08's reference answers. Conditions: none. -/
import Derived.Test.YtailblpjmgabjaaTv
import Derived.Test.YtailblpjmgabjaaTi
namespace Go.Proofs.Ytailblpjmgabjaa
open Go.RowKit
set_option linter.unusedVariables false
set_option linter.unusedSimpArgs false
set_option maxRecDepth 100000
set_option maxHeartbeats 16000000
def undX (key : ByteArray) (x : Leaf8) : Option Leaf8 :=
  match x.1 with
  | [] => none
  | p :: ps => if eqKey p key = true then some (ps, x.2) else none
def undL (key : ByteArray) (l : List Leaf8) : List Leaf8 := l.filterMap (undX key)
theorem undX_none0 {key : ByteArray} {x : Leaf8} (h : x.1.length = 0) : undX key x = none := by
  unfold undX; rw [List.eq_nil_of_length_eq_zero h]
theorem undX_none1 {key : ByteArray} {x : Leaf8} (h : 0 < x.1.length) (hk : ¬ (x.1[0]'h).toList = key.toList) : undX key x = none := by
  unfold undX
  rcases x with ⟨_ | ⟨p, ps⟩, e⟩
  · rfl
  · exact if_neg (by simpa [eqKey] using hk)
theorem undX_some {key : ByteArray} {x : Leaf8} (h : 0 < x.1.length) (hk : (x.1[0]'h).toList = key.toList) : undX key x = some (x.1.tail, x.2) := by
  unfold undX
  rcases x with ⟨_ | ⟨p, ps⟩, e⟩
  · cases h
  · exact if_pos (by simpa [eqKey] using hk)
theorem undL_take {key : ByteArray} {l : List Leaf8} {i : Nat} (h : i < l.length) : undL key (l.take (i + 1)) = undL key (l.take i) ++ (undX key l[i]).toList := by
  unfold undL
  rw [List.take_succ_eq_append_getElem h, List.filterMap_append]
  cases hx : undX key l[i] <;> simp [hx]
theorem undL_len (key : ByteArray) (l : List Leaf8) : (undL key l).length ≤ l.length := List.length_filterMap_le _ _
theorem under_a (l : List Leaf8) (key : ByteArray) (hn : l.length ≤ 1000000) (hp : ∀ x ∈ l, x.1.length ≤ 1000000) : AFnP Try.prog 40 [lstE leafE l, .str key] (lstE leafE (undL key l)) := by
  refine afnp_in ty_ok Try.call40 Try.func40 rfl rfl (by decide +kernel) ?_
  (try conv => whnf)<;>repeat' ((first|(refine VS.mk ?_;intro t ht;cases t<;>(first|replace ht := of_decide_eq_true ht|replace ht := of_decide_eq_false ht|replace ht := beq_iff_eq.1 ht|replace ht := beq_eq_false_iff_ne.1 ht|replace ht := bne_iff_ne.1 ht|replace ht := bne_eq_false_iff_eq.1 ht|skip)<;>(first|(exfalso;omega)|(cases ht;done)|exact absurd rfl ht|exact absurd (ht.symm.trans (by assumption : _ = false)) (by decide)|exact absurd (ht.symm.trans (by assumption : _ = true)) (by decide)|skip))|refine VWr.mk ⟨_,wrap_in ⟨by omega,by omega⟩,?_⟩|refine VIx.mk ⟨_,_,rfl,getE (by omega),rfl,?_⟩|refine VIx.mk ⟨_,_,by assumption,getE (by omega),rfl,?_⟩|refine VIx.mk ⟨Int.toNat _,_,(Int.toNat_of_nonneg (by omega)).symm,getE (by omega),rfl,?_⟩|refine VIx.mk ⟨_,_,rfl,by assumption,rfl,?_⟩|refine VIx.mk ⟨Int.toNat _,_,rfl,rfl,rfl,?_⟩|refine VIx.mk ⟨0,_,rfl,rfl,rfl,?_⟩|refine VIx.mk ⟨1,_,rfl,rfl,rfl,?_⟩|refine VIx.mk ⟨2,_,rfl,rfl,rfl,?_⟩|refine VIx.mk ⟨3,_,rfl,rfl,rfl,?_⟩|refine VAt.mk ⟨_,rfl,by omega,?_⟩|refine VAt.mk ⟨_,by assumption,by omega,?_⟩|refine VAt.mk ⟨0,rfl,by decide,?_⟩|refine VAt.mk ⟨1,rfl,by decide,?_⟩|refine VAt.mk ⟨2,rfl,by decide,?_⟩|refine VAt.mk ⟨3,rfl,by decide,?_⟩|refine VAt.mk ⟨Int.toNat _,rfl,by decide,?_⟩|refine VAt.mk ⟨Int.toNat _,(Int.toNat_of_nonneg (by omega)).symm,by omega,?_⟩|refine VRow.mk ⟨_,by assumption,?_⟩|refine VRow.mk ⟨_,getE (by omega),?_⟩|refine VRow.mk ⟨_,rfl,?_⟩|refine VApp.mk (by first|exact rok_lit rfl|exact rok_map (fun _ => ⟨rfl,rfl⟩)) (by omega) ?_|refine Or.inl (VDr.mk ⟨[],[],[],by decide +kernel,?_⟩)|refine VAnd.mk ?_ ?_|refine Or.inl (VSl.map (l := 0) (h := _) rfl rfl (by omega) (by omega) (fun _ => rfl) ?_)|refine Or.inl (VSl.of (l := 0) (h := _) rfl rfl (by omega) (by omega) (by first|exact len_map (fun _ => rfl)|exact len_lit rfl) ?_)|refine VSl.map (l := 0) (h := _) rfl rfl (by omega) (by omega) (fun _ => rfl) ?_|refine VSl.of (l := 0) (h := _) rfl rfl (by omega) (by omega) (by first|exact len_map (fun _ => rfl)|exact len_lit rfl) ?_|refine Or.inl (VSl.map (l := 1) (h := _) rfl rfl (by omega) (by omega) (fun _ => rfl) ?_)|refine Or.inl (VSl.of (l := 1) (h := _) rfl rfl (by omega) (by omega) (by first|exact len_map (fun _ => rfl)|exact len_lit rfl) ?_)|refine VSl.map (l := 1) (h := _) rfl rfl (by omega) (by omega) (fun _ => rfl) ?_|refine VSl.of (l := 1) (h := _) rfl rfl (by omega) (by omega) (by first|exact len_map (fun _ => rfl)|exact len_lit rfl) ?_|refine Or.inl (VSn.mk ⟨by first|rfl|omega,by first|rfl|omega,?_⟩)|refine Or.inr (VSo.mk ⟨_,rfl,rfl,by omega,?_⟩)|refine Or.inr (VSo.mk ⟨0,rfl,rfl,by omega,?_⟩)|refine VAz.mk ⟨_,rfl,by omega,by omega,?_⟩|refine VAz.mk ⟨Int.toNat _,(Int.toNat_of_nonneg (by omega)).symm,by omega,by omega,?_⟩|fail)<;>(try conv => whnf))
  refine VLp.mk ⟨[.slot 5 70 5], [], [5, 9], fun k vs h => ∃ i : Nat, vs = [.own 0 (undL key (l.take i)).length, i64 i] ∧ h = [.row 0 70 5 ((undL key (l.take i)).map leafE)] ∧ i ≤ l.length ∧ k = l.length - i, l.length, ?_⟩
  conv => whnf
  refine ⟨⟨0, rfl, rfl, by omega, by omega⟩, ?_⟩
  rintro k vs h ⟨i, rfl, rfl, hi, rfl⟩
  by_cases hin : i < l.length
  · have hlen := hp l[i] (List.getElem_mem hin)
    have e := undL_take (key := key) hin
    have l0 := undL_len key (l.take i)
    rw [List.length_take] at l0
    have x0 := @undX_none0 key l[i]
    have x1 := @undX_none1 key l[i]
    have x2 := @undX_some key l[i]
    generalize undL key (l.take i) = A at *
    (try conv => whnf)<;>repeat' ((first|(refine VS.mk ?_;intro t ht;cases t<;>(first|replace ht := of_decide_eq_true ht|replace ht := of_decide_eq_false ht|replace ht := beq_iff_eq.1 ht|replace ht := beq_eq_false_iff_ne.1 ht|replace ht := bne_iff_ne.1 ht|replace ht := bne_eq_false_iff_eq.1 ht|skip)<;>(first|(exfalso;omega)|(cases ht;done)|exact absurd rfl ht|exact absurd (ht.symm.trans (by assumption : _ = false)) (by decide)|exact absurd (ht.symm.trans (by assumption : _ = true)) (by decide)|skip))|refine VWr.mk ⟨_,wrap_in ⟨by omega,by omega⟩,?_⟩|refine VIx.mk ⟨_,_,rfl,getE (by omega),rfl,?_⟩|refine VIx.mk ⟨_,_,by assumption,getE (by omega),rfl,?_⟩|refine VIx.mk ⟨Int.toNat _,_,(Int.toNat_of_nonneg (by omega)).symm,getE (by omega),rfl,?_⟩|refine VIx.mk ⟨_,_,rfl,by assumption,rfl,?_⟩|refine VIx.mk ⟨Int.toNat _,_,rfl,rfl,rfl,?_⟩|refine VIx.mk ⟨0,_,rfl,rfl,rfl,?_⟩|refine VIx.mk ⟨1,_,rfl,rfl,rfl,?_⟩|refine VIx.mk ⟨2,_,rfl,rfl,rfl,?_⟩|refine VIx.mk ⟨3,_,rfl,rfl,rfl,?_⟩|refine VAt.mk ⟨_,rfl,by omega,?_⟩|refine VAt.mk ⟨_,by assumption,by omega,?_⟩|refine VAt.mk ⟨0,rfl,by decide,?_⟩|refine VAt.mk ⟨1,rfl,by decide,?_⟩|refine VAt.mk ⟨2,rfl,by decide,?_⟩|refine VAt.mk ⟨3,rfl,by decide,?_⟩|refine VAt.mk ⟨Int.toNat _,rfl,by decide,?_⟩|refine VAt.mk ⟨Int.toNat _,(Int.toNat_of_nonneg (by omega)).symm,by omega,?_⟩|refine VRow.mk ⟨_,by assumption,?_⟩|refine VRow.mk ⟨_,getE (by omega),?_⟩|refine VRow.mk ⟨_,rfl,?_⟩|refine VApp.mk (by first|exact rok_lit rfl|exact rok_map (fun _ => ⟨rfl,rfl⟩)) (by omega) ?_|refine Or.inl (VDr.mk ⟨[],[],[],by decide +kernel,?_⟩)|refine VAnd.mk ?_ ?_|refine Or.inl (VSl.map (l := 0) (h := _) rfl rfl (by omega) (by omega) (fun _ => rfl) ?_)|refine Or.inl (VSl.of (l := 0) (h := _) rfl rfl (by omega) (by omega) (by first|exact len_map (fun _ => rfl)|exact len_lit rfl) ?_)|refine VSl.map (l := 0) (h := _) rfl rfl (by omega) (by omega) (fun _ => rfl) ?_|refine VSl.of (l := 0) (h := _) rfl rfl (by omega) (by omega) (by first|exact len_map (fun _ => rfl)|exact len_lit rfl) ?_|refine Or.inl (VSl.map (l := 1) (h := _) rfl rfl (by omega) (by omega) (fun _ => rfl) ?_)|refine Or.inl (VSl.of (l := 1) (h := _) rfl rfl (by omega) (by omega) (by first|exact len_map (fun _ => rfl)|exact len_lit rfl) ?_)|refine VSl.map (l := 1) (h := _) rfl rfl (by omega) (by omega) (fun _ => rfl) ?_|refine VSl.of (l := 1) (h := _) rfl rfl (by omega) (by omega) (by first|exact len_map (fun _ => rfl)|exact len_lit rfl) ?_|refine Or.inl (VSn.mk ⟨by first|rfl|omega,by first|rfl|omega,?_⟩)|refine Or.inr (VSo.mk ⟨_,rfl,rfl,by omega,?_⟩)|refine Or.inr (VSo.mk ⟨0,rfl,rfl,by omega,?_⟩)|refine VAz.mk ⟨_,rfl,by omega,by omega,?_⟩|refine VAz.mk ⟨Int.toNat _,(Int.toNat_of_nonneg (by omega)).symm,by omega,by omega,?_⟩|fail)<;>(try conv => whnf))
    all_goals first
      | (have x2 := x2 (by omega) (by assumption)
         exact VRd.mk rfl ⟨l.length - (i + 1), by omega, i + 1, by rw [e, x2]; simp [i64], by rw [e, x2]; simp [leafE, lstE, entE], by omega, rfl⟩)
      | (have x1 := x1 (by omega) (by assumption)
         exact VRd.mk rfl ⟨l.length - (i + 1), by omega, i + 1, by rw [e, x1]; simp [i64], by rw [e, x1]; simp, by omega, rfl⟩)
      | (have x0 := x0 (by omega)
         exact VRd.mk rfl ⟨l.length - (i + 1), by omega, i + 1, by rw [e, x0]; simp [i64], by rw [e, x0]; simp, by omega, rfl⟩)
  · obtain rfl : i = l.length := by omega
    rw [List.take_length]
    (try conv => whnf)<;>repeat' ((first|(refine VS.mk ?_;intro t ht;cases t<;>(first|replace ht := of_decide_eq_true ht|replace ht := of_decide_eq_false ht|replace ht := beq_iff_eq.1 ht|replace ht := beq_eq_false_iff_ne.1 ht|replace ht := bne_iff_ne.1 ht|replace ht := bne_eq_false_iff_eq.1 ht|skip)<;>(first|(exfalso;omega)|(cases ht;done)|exact absurd rfl ht|exact absurd (ht.symm.trans (by assumption : _ = false)) (by decide)|exact absurd (ht.symm.trans (by assumption : _ = true)) (by decide)|skip))|refine VWr.mk ⟨_,wrap_in ⟨by omega,by omega⟩,?_⟩|refine VIx.mk ⟨_,_,rfl,getE (by omega),rfl,?_⟩|refine VIx.mk ⟨_,_,by assumption,getE (by omega),rfl,?_⟩|refine VIx.mk ⟨Int.toNat _,_,(Int.toNat_of_nonneg (by omega)).symm,getE (by omega),rfl,?_⟩|refine VIx.mk ⟨_,_,rfl,by assumption,rfl,?_⟩|refine VIx.mk ⟨Int.toNat _,_,rfl,rfl,rfl,?_⟩|refine VIx.mk ⟨0,_,rfl,rfl,rfl,?_⟩|refine VIx.mk ⟨1,_,rfl,rfl,rfl,?_⟩|refine VIx.mk ⟨2,_,rfl,rfl,rfl,?_⟩|refine VIx.mk ⟨3,_,rfl,rfl,rfl,?_⟩|refine VAt.mk ⟨_,rfl,by omega,?_⟩|refine VAt.mk ⟨_,by assumption,by omega,?_⟩|refine VAt.mk ⟨0,rfl,by decide,?_⟩|refine VAt.mk ⟨1,rfl,by decide,?_⟩|refine VAt.mk ⟨2,rfl,by decide,?_⟩|refine VAt.mk ⟨3,rfl,by decide,?_⟩|refine VAt.mk ⟨Int.toNat _,rfl,by decide,?_⟩|refine VAt.mk ⟨Int.toNat _,(Int.toNat_of_nonneg (by omega)).symm,by omega,?_⟩|refine VRow.mk ⟨_,by assumption,?_⟩|refine VRow.mk ⟨_,getE (by omega),?_⟩|refine VRow.mk ⟨_,rfl,?_⟩|refine VApp.mk (by first|exact rok_lit rfl|exact rok_map (fun _ => ⟨rfl,rfl⟩)) (by omega) ?_|refine Or.inl (VDr.mk ⟨[],[],[],by decide +kernel,?_⟩)|refine VAnd.mk ?_ ?_|refine Or.inl (VSl.map (l := 0) (h := _) rfl rfl (by omega) (by omega) (fun _ => rfl) ?_)|refine Or.inl (VSl.of (l := 0) (h := _) rfl rfl (by omega) (by omega) (by first|exact len_map (fun _ => rfl)|exact len_lit rfl) ?_)|refine VSl.map (l := 0) (h := _) rfl rfl (by omega) (by omega) (fun _ => rfl) ?_|refine VSl.of (l := 0) (h := _) rfl rfl (by omega) (by omega) (by first|exact len_map (fun _ => rfl)|exact len_lit rfl) ?_|refine Or.inl (VSl.map (l := 1) (h := _) rfl rfl (by omega) (by omega) (fun _ => rfl) ?_)|refine Or.inl (VSl.of (l := 1) (h := _) rfl rfl (by omega) (by omega) (by first|exact len_map (fun _ => rfl)|exact len_lit rfl) ?_)|refine VSl.map (l := 1) (h := _) rfl rfl (by omega) (by omega) (fun _ => rfl) ?_|refine VSl.of (l := 1) (h := _) rfl rfl (by omega) (by omega) (by first|exact len_map (fun _ => rfl)|exact len_lit rfl) ?_|refine Or.inl (VSn.mk ⟨by first|rfl|omega,by first|rfl|omega,?_⟩)|refine Or.inr (VSo.mk ⟨_,rfl,rfl,by omega,?_⟩)|refine Or.inr (VSo.mk ⟨0,rfl,rfl,by omega,?_⟩)|refine VAz.mk ⟨_,rfl,by omega,by omega,?_⟩|refine VAz.mk ⟨Int.toNat _,(Int.toNat_of_nonneg (by omega)).symm,by omega,by omega,?_⟩|fail)<;>(try conv => whnf))
    all_goals rfl
end Go.Proofs.Ytailblpjmgabjaa
