/- What is proved: what Get and Wrap of package tree answer. Conditions: none. -/
import Derived.Test.YtailblpjmgabjaaTh
namespace Go.Proofs.Ytailblpjmgabjaa
open Go.RowKit
set_option linter.unusedVariables false
set_option linter.unusedSimpArgs false
set_option maxRecDepth 100000
set_option maxHeartbeats 16000000
def idxI {α : Type} (p : α → Bool) (l : List α) : Int := match l.findIdx? p with | some i => (i : Int) | none => -1
theorem idxI_some {α : Type} {p : α → Bool} {l : List α} {i : Nat} (h : i < l.length) (hp : p l[i] = true) (hb : ∀ j (hj : j < i), p (l[j]'(by omega)) = false) : idxI p l = (i : Int) := by
  have : l.findIdx? p = some i := List.findIdx?_eq_some_iff_getElem.2 ⟨h, hp, fun j hj => by simp [hb j hj]⟩
  unfold idxI; rw [this]
theorem idxI_none {α : Type} {p : α → Bool} {l : List α} (hb : ∀ j (hj : j < l.length), p l[j] = false) : idxI p l = -1 := by
  have : l.findIdx? p = none := List.findIdx?_eq_none_iff.2 fun x hx => by
    obtain ⟨j, hj, rfl⟩ := List.getElem_of_mem hx
    exact hb j hj
  unfold idxI; rw [this]
theorem idxI_any {α : Type} {p : α → Bool} {l : List α} : decide (0 ≤ idxI p l) = l.any p := by
  unfold idxI
  cases h : l.findIdx? p with
  | none => simp only [List.findIdx?_eq_none_iff] at h; simp; exact h
  | some i =>
    obtain ⟨hi, hp, _⟩ := List.findIdx?_eq_some_iff_getElem.1 h
    simp
    exact ⟨l[i], List.getElem_mem _, hp⟩
theorem indexStr_a (l : List ByteArray) (hn : l.length ≤ 1000000) {g : Nat} (p : ByteArray → Bool) (hp : ∀ x, AFnP Try.prog g [.str x] (.bool (p x))) : AFnP Try.prog 62 [lstE strE l, .fn g []] (i64 (idxI p l)) := by
  refine afnp_in ty_ok Try.call62 Try.func62 rfl rfl (by decide +kernel) ?_
  (try conv=>whnf)<;>repeat'((first|exact sNo|refine sT ?_|refine sF ?_|((first|refine sD ?_ ?_|refine sE ?_ ?_|refine sN ?_ ?_|refine sG ?_ ?_)<;>intro ht<;>(first|(cases ht;done)|skip))|refine wr ?_|refine ix ?_|refine ati ?_|refine row ?_|refine app ?_|refine dr ?_|refine VAnd.mk ?_ ?_|exact VJe.mk rfl ⟨rfl,rfl⟩|refine .inl (slM ?_)|refine .inl (slO ?_)|refine slM ?_|refine slO ?_|refine slN ?_|refine slS ?_|refine swB (swM fun C hC=>?_)|refine sj ?_|refine .inl (sv ?_)|refine sv ?_|refine cl ?_|refine s3 ?_|refine az ?_|refine rm ?_|refine VBs.own ?_|fail)<;>(try conv=>whnf))
  refine VLp.mk ⟨[], [], [8], fun k vs h => ∃ i : Nat, vs = [i64 i] ∧ h = [] ∧ i ≤ l.length ∧ k = l.length - i ∧ ∀ j (hj : j < i) (hl : j < l.length), p l[j] = false, l.length, ?_⟩
  conv => whnf
  refine ⟨⟨0, rfl, rfl, by omega, by omega, fun j hj => by omega⟩, ?_⟩
  rintro k vs h ⟨i, rfl, rfl, hi, rfl, hg⟩
  by_cases hin : i < l.length
  · have r := hp l[i]
    cases hb : p l[i]
    · rw [hb] at r
      (try conv=>whnf)<;>repeat'((first|exact sNo|refine sT ?_|refine sF ?_|((first|refine sD ?_ ?_|refine sE ?_ ?_|refine sN ?_ ?_|refine sG ?_ ?_)<;>intro ht<;>(first|(cases ht;done)|skip))|refine wr ?_|refine ix ?_|refine ati ?_|refine row ?_|refine app ?_|refine dr ?_|refine VAnd.mk ?_ ?_|exact VJe.mk rfl ⟨rfl,rfl⟩|refine .inl (slM ?_)|refine .inl (slO ?_)|refine slM ?_|refine slO ?_|refine slN ?_|refine slS ?_|refine swB (swM fun C hC=>?_)|refine sj ?_|refine .inl (sv ?_)|refine sv ?_|refine cl ?_|refine s3 ?_|refine az ?_|refine rm ?_|refine VBs.own ?_|refine cf r ?_|refine cg r ?_|refine cz r ?_|fail)<;>(try conv=>whnf))
      exact VRd.mk rfl ⟨l.length - (i + 1), by omega, i + 1, rfl, rfl, by omega, rfl, fun j hj hl => by rcases Nat.lt_succ_iff_lt_or_eq.1 hj with h | rfl; exact hg j h hl; exact hb⟩
    · rw [hb] at r
      (try conv=>whnf)<;>repeat'((first|exact sNo|refine sT ?_|refine sF ?_|((first|refine sD ?_ ?_|refine sE ?_ ?_|refine sN ?_ ?_|refine sG ?_ ?_)<;>intro ht<;>(first|(cases ht;done)|skip))|refine wr ?_|refine ix ?_|refine ati ?_|refine row ?_|refine app ?_|refine dr ?_|refine VAnd.mk ?_ ?_|exact VJe.mk rfl ⟨rfl,rfl⟩|refine .inl (slM ?_)|refine .inl (slO ?_)|refine slM ?_|refine slO ?_|refine slN ?_|refine slS ?_|refine swB (swM fun C hC=>?_)|refine sj ?_|refine .inl (sv ?_)|refine sv ?_|refine cl ?_|refine s3 ?_|refine az ?_|refine rm ?_|refine VBs.own ?_|refine cf r ?_|refine cg r ?_|refine cz r ?_|fail)<;>(try conv=>whnf))
      exact congrArg i64 (idxI_some hin hb fun j hj => hg j hj (by omega)).symm
  · (try conv=>whnf)<;>repeat'((first|exact sNo|refine sT ?_|refine sF ?_|((first|refine sD ?_ ?_|refine sE ?_ ?_|refine sN ?_ ?_|refine sG ?_ ?_)<;>intro ht<;>(first|(cases ht;done)|skip))|refine wr ?_|refine ix ?_|refine ati ?_|refine row ?_|refine app ?_|refine dr ?_|refine VAnd.mk ?_ ?_|exact VJe.mk rfl ⟨rfl,rfl⟩|refine .inl (slM ?_)|refine .inl (slO ?_)|refine slM ?_|refine slO ?_|refine slN ?_|refine slS ?_|refine swB (swM fun C hC=>?_)|refine sj ?_|refine .inl (sv ?_)|refine sv ?_|refine cl ?_|refine s3 ?_|refine az ?_|refine rm ?_|refine VBs.own ?_|fail)<;>(try conv=>whnf))
    exact congrArg i64 (idxI_none fun j hj => hg j (by omega) hj).symm
theorem indexKid_a (l : List (ByteArray × Tr8)) (hn : l.length ≤ 1000000) {g : Nat} {cs : List AV} (p : (ByteArray × Tr8) → Bool) (hp : ∀ x, AFnP Try.prog g [.agg (kidE x), .fp cs 0] (.bool (p x))) : AFnP Try.prog 36 [lstE kidE l, .fn g [.fp cs 0]] (i64 (idxI p l)) := by
  refine afnp_in ty_ok Try.call36 Try.func36 rfl rfl (by decide +kernel) ?_
  (try conv=>whnf)<;>repeat'((first|exact sNo|refine sT ?_|refine sF ?_|((first|refine sD ?_ ?_|refine sE ?_ ?_|refine sN ?_ ?_|refine sG ?_ ?_)<;>intro ht<;>(first|(cases ht;done)|skip))|refine wr ?_|refine ix ?_|refine ati ?_|refine row ?_|refine app ?_|refine dr ?_|refine VAnd.mk ?_ ?_|exact VJe.mk rfl ⟨rfl,rfl⟩|refine .inl (slM ?_)|refine .inl (slO ?_)|refine slM ?_|refine slO ?_|refine slN ?_|refine slS ?_|refine swB (swM fun C hC=>?_)|refine sj ?_|refine .inl (sv ?_)|refine sv ?_|refine cl ?_|refine s3 ?_|refine az ?_|refine rm ?_|refine VBs.own ?_|fail)<;>(try conv=>whnf))
  refine VLp.mk ⟨[], [], [8], fun k vs h => ∃ i : Nat, vs = [i64 i] ∧ h = [] ∧ i ≤ l.length ∧ k = l.length - i ∧ ∀ j (hj : j < i) (hl : j < l.length), p l[j] = false, l.length, ?_⟩
  conv => whnf
  refine ⟨⟨0, rfl, rfl, by omega, by omega, fun j hj => by omega⟩, ?_⟩
  rintro k vs h ⟨i, rfl, rfl, hi, rfl, hg⟩
  by_cases hin : i < l.length
  · have r := hp l[i]
    cases hb : p l[i]
    · rw [hb] at r
      (try conv=>whnf)<;>repeat'((first|exact sNo|refine sT ?_|refine sF ?_|((first|refine sD ?_ ?_|refine sE ?_ ?_|refine sN ?_ ?_|refine sG ?_ ?_)<;>intro ht<;>(first|(cases ht;done)|skip))|refine wr ?_|refine ix ?_|refine ati ?_|refine row ?_|refine app ?_|refine dr ?_|refine VAnd.mk ?_ ?_|exact VJe.mk rfl ⟨rfl,rfl⟩|refine .inl (slM ?_)|refine .inl (slO ?_)|refine slM ?_|refine slO ?_|refine slN ?_|refine slS ?_|refine swB (swM fun C hC=>?_)|refine sj ?_|refine .inl (sv ?_)|refine sv ?_|refine cl ?_|refine s3 ?_|refine az ?_|refine rm ?_|refine VBs.own ?_|refine cf r ?_|refine cg r ?_|refine cz r ?_|fail)<;>(try conv=>whnf))
      exact VRd.mk rfl ⟨l.length - (i + 1), by omega, i + 1, rfl, rfl, by omega, rfl, fun j hj hl => by rcases Nat.lt_succ_iff_lt_or_eq.1 hj with h | rfl; exact hg j h hl; exact hb⟩
    · rw [hb] at r
      (try conv=>whnf)<;>repeat'((first|exact sNo|refine sT ?_|refine sF ?_|((first|refine sD ?_ ?_|refine sE ?_ ?_|refine sN ?_ ?_|refine sG ?_ ?_)<;>intro ht<;>(first|(cases ht;done)|skip))|refine wr ?_|refine ix ?_|refine ati ?_|refine row ?_|refine app ?_|refine dr ?_|refine VAnd.mk ?_ ?_|exact VJe.mk rfl ⟨rfl,rfl⟩|refine .inl (slM ?_)|refine .inl (slO ?_)|refine slM ?_|refine slO ?_|refine slN ?_|refine slS ?_|refine swB (swM fun C hC=>?_)|refine sj ?_|refine .inl (sv ?_)|refine sv ?_|refine cl ?_|refine s3 ?_|refine az ?_|refine rm ?_|refine VBs.own ?_|refine cf r ?_|refine cg r ?_|refine cz r ?_|fail)<;>(try conv=>whnf))
      exact congrArg i64 (idxI_some hin hb fun j hj => hg j hj (by omega)).symm
  · (try conv=>whnf)<;>repeat'((first|exact sNo|refine sT ?_|refine sF ?_|((first|refine sD ?_ ?_|refine sE ?_ ?_|refine sN ?_ ?_|refine sG ?_ ?_)<;>intro ht<;>(first|(cases ht;done)|skip))|refine wr ?_|refine ix ?_|refine ati ?_|refine row ?_|refine app ?_|refine dr ?_|refine VAnd.mk ?_ ?_|exact VJe.mk rfl ⟨rfl,rfl⟩|refine .inl (slM ?_)|refine .inl (slO ?_)|refine slM ?_|refine slO ?_|refine slN ?_|refine slS ?_|refine swB (swM fun C hC=>?_)|refine sj ?_|refine .inl (sv ?_)|refine sv ?_|refine cl ?_|refine s3 ?_|refine az ?_|refine rm ?_|refine VBs.own ?_|fail)<;>(try conv=>whnf))
    exact congrArg i64 (idxI_none fun j hj => hg j (by omega) hj).symm
theorem containsStr_a (l : List ByteArray) (hn : l.length ≤ 1000000) {g : Nat} (p : ByteArray → Bool) (hp : ∀ x, AFnP Try.prog g [.str x] (.bool (p x))) : AFnP Try.prog 42 [lstE strE l, .fn g []] (.bool (l.any p)) := by
  refine afnp_in ty_ok Try.call42 Try.func42 rfl rfl (by decide +kernel) ?_
  have r := indexStr_a l hn p hp
  have e := idxI_any (p := p) (l := l)
  rw [← e]
  generalize idxI p l = x at *
  (try conv=>whnf)<;>repeat'((first|exact sNo|refine sT ?_|refine sF ?_|((first|refine sD ?_ ?_|refine sE ?_ ?_|refine sN ?_ ?_|refine sG ?_ ?_)<;>intro ht<;>(first|(cases ht;done)|skip))|refine wr ?_|refine ix ?_|refine ati ?_|refine row ?_|refine app ?_|refine dr ?_|refine VAnd.mk ?_ ?_|exact VJe.mk rfl ⟨rfl,rfl⟩|refine .inl (slM ?_)|refine .inl (slO ?_)|refine slM ?_|refine slO ?_|refine slN ?_|refine slS ?_|refine swB (swM fun C hC=>?_)|refine sj ?_|refine .inl (sv ?_)|refine sv ?_|refine cl ?_|refine s3 ?_|refine az ?_|refine rm ?_|refine VBs.own ?_|refine cf r ?_|refine cg r ?_|refine cz r ?_|fail)<;>(try conv=>whnf))
  all_goals (refine congrArg AV.bool ?_; simp [*])
theorem wrap1_a (k : ByteArray) : AFnP Try.prog 43 [.str k] (.bool (!okKey k)) := by
  refine afnp_in ty_ok Try.call43 Try.func43 rfl rfl (by decide +kernel) ?_
  have r := key_a k
  (try conv=>whnf)<;>repeat'((first|exact sNo|refine sT ?_|refine sF ?_|((first|refine sD ?_ ?_|refine sE ?_ ?_|refine sN ?_ ?_|refine sG ?_ ?_)<;>intro ht<;>(first|(cases ht;done)|skip))|refine wr ?_|refine ix ?_|refine ati ?_|refine row ?_|refine app ?_|refine dr ?_|refine VAnd.mk ?_ ?_|exact VJe.mk rfl ⟨rfl,rfl⟩|refine .inl (slM ?_)|refine .inl (slO ?_)|refine slM ?_|refine slO ?_|refine slN ?_|refine slS ?_|refine swB (swM fun C hC=>?_)|refine sj ?_|refine .inl (sv ?_)|refine sv ?_|refine cl ?_|refine s3 ?_|refine az ?_|refine rm ?_|refine VBs.own ?_|refine cf r ?_|refine cg r ?_|refine cz r ?_|fail)<;>(try conv=>whnf))
  all_goals rw [ht]
def eqKey (a b : ByteArray) : Bool := a.toList == b.toList
theorem get1_a (x : ByteArray × Tr8) (p : ByteArray) : AFnP Try.prog 37 [.agg (kidE x), .fp [.str p] 0] (.bool (eqKey x.1 p)) := by
  refine afnp_in ty_ok Try.call37 Try.func37 rfl rfl (by decide +kernel) ?_
  unfold eqKey
  (try conv=>whnf)<;>repeat'((first|exact sNo|refine sT ?_|refine sF ?_|((first|refine sD ?_ ?_|refine sE ?_ ?_|refine sN ?_ ?_|refine sG ?_ ?_)<;>intro ht<;>(first|(cases ht;done)|skip))|refine wr ?_|refine ix ?_|refine ati ?_|refine row ?_|refine app ?_|refine dr ?_|refine VAnd.mk ?_ ?_|exact VJe.mk rfl ⟨rfl,rfl⟩|refine .inl (slM ?_)|refine .inl (slO ?_)|refine slM ?_|refine slO ?_|refine slN ?_|refine slS ?_|refine swB (swM fun C hC=>?_)|refine sj ?_|refine .inl (sv ?_)|refine sv ?_|refine cl ?_|refine s3 ?_|refine az ?_|refine rm ?_|refine VBs.own ?_|fail)<;>(try conv=>whnf))
  all_goals simp [*]
def stepT (c : Tr8) (p : ByteArray) : Option Tr8 := match c.ks.findIdx? (fun x => eqKey x.1 p) with | some i => (c.ks[i]?).map (fun x => x.2) | none => none
def getT (t : Tr8) (path : List ByteArray) : Option Tr8 := path.foldl (fun o p => o.bind fun c => stepT c p) (some t)
theorem getT_take {t c : Tr8} {path : List ByteArray} {i : Nat} (hi : i < path.length) (h : getT t (path.take i) = some c) : getT t (path.take (i + 1)) = stepT c path[i] := by
  unfold getT at h ⊢
  rw [List.take_succ_eq_append_getElem hi, List.foldl_append, h]
  rfl
theorem getT_none {t : Tr8} {path : List ByteArray} {i : Nat} (hi : i ≤ path.length) (h : getT t (path.take i) = none) : getT t path = none := by
  have hs : ∀ l : List ByteArray, l.foldl (fun (o : Option Tr8) p => o.bind fun c => stepT c p) none = none := fun l => by
    induction l with
    | nil => rfl
    | cons x l ih => simpa using ih
  unfold getT at h ⊢
  rw [← List.take_append_drop i path, List.foldl_append, h]
  exact hs _
def getTE (o : Option Tr8) : AV := match o with | some c => .agg [lstE entE c.es, lstE kidRow c.ks] | none => .agg [.lst 0 [], .lst 0 []]
theorem get_t (t : Tr8) (path : List ByteArray) (hr : rightT 5 t = true) (hc : cntT t ≤ 1000000) (hn : path.length ≤ 1000000) : AFnP Try.prog 14 [.agg [lstE entE t.es, lstE kidRow t.ks], lstE strE path] (getTE (getT t path)) := by
  have r1 := tright_a t hc
  rw [hr] at r1
  rw [kidRow_fun] at r1 ⊢
  refine afnp_in ty_ok Try.call14 Try.func14 rfl rfl (by decide +kernel) ?_
  (try conv=>whnf)<;>repeat'((first|exact sNo|refine sT ?_|refine sF ?_|((first|refine sD ?_ ?_|refine sE ?_ ?_|refine sN ?_ ?_|refine sG ?_ ?_)<;>intro ht<;>(first|(cases ht;done)|skip))|refine wr ?_|refine ix ?_|refine ati ?_|refine row ?_|refine app ?_|refine dr ?_|refine VAnd.mk ?_ ?_|exact VJe.mk rfl ⟨rfl,rfl⟩|refine .inl (slM ?_)|refine .inl (slO ?_)|refine slM ?_|refine slO ?_|refine slN ?_|refine slS ?_|refine swB (swM fun C hC=>?_)|refine sj ?_|refine .inl (sv ?_)|refine sv ?_|refine cl ?_|refine s3 ?_|refine az ?_|refine rm ?_|refine VBs.own ?_|refine cf r1 ?_|refine cg r1 ?_|refine cz r1 ?_|fail)<;>(try conv=>whnf))
  refine VLp.mk ⟨[], [], [2, 4, 14], fun k vs h => ∃ (i : Nat) (c : Tr8) (d : Nat), vs = [.op 0 0, .op 1 0, i64 i] ∧ h = [.blk 0 [lstE entE c.es, lstE kidE c.ks] 25, .blk 1 [.nils, .nils] 25] ∧ i ≤ path.length ∧ k = path.length - i ∧ getT t (path.take i) = some c ∧ rightT d c = true ∧ cntT c ≤ 1000000, path.length, ?_⟩
  conv => whnf
  refine ⟨⟨0, t, 5, rfl, rfl, by omega, by omega, rfl, hr, hc⟩, ?_⟩
  rintro k vs h ⟨i, c, d, rfl, rfl, hi, rfl, hg, hrc, hcc⟩
  have hcnt := cntT_eq c
  by_cases hin : i < path.length
  · have e := getT_take hin hg
    have r2 := indexKid_a c.ks (by omega) (g := 37) (cs := [.str path[i]]) (fun x => eqKey x.1 path[i]) (fun x => get1_a x path[i])
    unfold stepT at e
    cases hf : c.ks.findIdx? (fun x => eqKey x.1 path[i]) with
    | none =>
      rw [hf] at e
      have h1 : idxI (fun x => eqKey x.1 path[i]) c.ks = -1 := by unfold idxI; rw [hf]
      rw [h1] at r2
      rw [getT_none (show i + 1 ≤ path.length by omega) e]
      (try conv=>whnf)<;>repeat'((first|exact sNo|refine sT ?_|refine sF ?_|((first|refine sD ?_ ?_|refine sE ?_ ?_|refine sN ?_ ?_|refine sG ?_ ?_)<;>intro ht<;>(first|(cases ht;done)|skip))|refine wr ?_|refine ix ?_|refine ati ?_|refine row ?_|refine app ?_|refine dr ?_|refine VAnd.mk ?_ ?_|exact VJe.mk rfl ⟨rfl,rfl⟩|refine .inl (slM ?_)|refine .inl (slO ?_)|refine slM ?_|refine slO ?_|refine slN ?_|refine slS ?_|refine swB (swM fun C hC=>?_)|refine sj ?_|refine .inl (sv ?_)|refine sv ?_|refine cl ?_|refine s3 ?_|refine az ?_|refine rm ?_|refine VBs.own ?_|refine cf r2 ?_|refine cg r2 ?_|refine cz r2 ?_|fail)<;>(try conv=>whnf))
      all_goals rfl
    | some m =>
      rw [hf] at e
      have h1 : idxI (fun x => eqKey x.1 path[i]) c.ks = (m : Int) := by unfold idxI; rw [hf]
      have hm : m < c.ks.length := (List.findIdx?_eq_some_iff_getElem.1 hf).1
      rw [h1] at r2
      have e : getT t (path.take (i + 1)) = some c.ks[m].2 := by rw [e]; show Option.map (fun x => x.2) c.ks[m]? = _; rw [List.getElem?_eq_getElem hm]; rfl
      obtain ⟨d0, rfl⟩ : ∃ d0, d = d0 + 1 := by cases d with | zero => cases hrc | succ d0 => exact ⟨d0, rfl⟩
      have hx := cntK_mem (List.getElem_mem hm)
      (try conv=>whnf)<;>repeat'((first|exact sNo|refine sT ?_|refine sF ?_|((first|refine sD ?_ ?_|refine sE ?_ ?_|refine sN ?_ ?_|refine sG ?_ ?_)<;>intro ht<;>(first|(cases ht;done)|skip))|refine wr ?_|refine ix ?_|refine ati ?_|refine row ?_|refine app ?_|refine dr ?_|refine VAnd.mk ?_ ?_|exact VJe.mk rfl ⟨rfl,rfl⟩|refine .inl (slM ?_)|refine .inl (slO ?_)|refine slM ?_|refine slO ?_|refine slN ?_|refine slS ?_|refine swB (swM fun C hC=>?_)|refine sj ?_|refine .inl (sv ?_)|refine sv ?_|refine cl ?_|refine s3 ?_|refine az ?_|refine rm ?_|refine VBs.own ?_|refine cf r2 ?_|refine cg r2 ?_|refine cz r2 ?_|fail)<;>(try conv=>whnf))
      all_goals exact VRd.mk rfl ⟨path.length - (i + 1), by omega, i + 1, c.ks[m].2, d0, rfl, by rw [← kidRow_fun], by omega, rfl, e, rightT_child hrc hm, by omega⟩
  · obtain rfl : i = path.length := by omega
    rw [List.take_length] at hg
    rw [hg]
    have r3 := clone_a d c hrc hcc
    rw [kidRow_fun] at r3
    unfold getTE
    rw [kidRow_fun]
    (try conv=>whnf)<;>repeat'((first|exact sNo|refine sT ?_|refine sF ?_|((first|refine sD ?_ ?_|refine sE ?_ ?_|refine sN ?_ ?_|refine sG ?_ ?_)<;>intro ht<;>(first|(cases ht;done)|skip))|refine wr ?_|refine ix ?_|refine ati ?_|refine row ?_|refine app ?_|refine dr ?_|refine VAnd.mk ?_ ?_|exact VJe.mk rfl ⟨rfl,rfl⟩|refine .inl (slM ?_)|refine .inl (slO ?_)|refine slM ?_|refine slO ?_|refine slN ?_|refine slS ?_|refine swB (swM fun C hC=>?_)|refine sj ?_|refine .inl (sv ?_)|refine sv ?_|refine cl ?_|refine s3 ?_|refine az ?_|refine rm ?_|refine VBs.own ?_|refine cf r3 ?_|refine cg r3 ?_|refine cz r3 ?_|fail)<;>(try conv=>whnf))
    all_goals rfl
theorem get_f (t : Tr8) (path : List ByteArray) (hr : rightT 5 t = false) (hc : cntT t ≤ 1000000) : AFnP Try.prog 14 [.agg [lstE entE t.es, lstE kidRow t.ks], lstE strE path] (.agg [.lst 0 [], .lst 0 []]) := by
  have r1 := tright_a t hc
  rw [hr] at r1
  refine afnp_in ty_ok Try.call14 Try.func14 rfl rfl (by decide +kernel) ?_
  (try conv=>whnf)<;>repeat'((first|exact sNo|refine sT ?_|refine sF ?_|((first|refine sD ?_ ?_|refine sE ?_ ?_|refine sN ?_ ?_|refine sG ?_ ?_)<;>intro ht<;>(first|(cases ht;done)|skip))|refine wr ?_|refine ix ?_|refine ati ?_|refine row ?_|refine app ?_|refine dr ?_|refine VAnd.mk ?_ ?_|exact VJe.mk rfl ⟨rfl,rfl⟩|refine .inl (slM ?_)|refine .inl (slO ?_)|refine slM ?_|refine slO ?_|refine slN ?_|refine slS ?_|refine swB (swM fun C hC=>?_)|refine sj ?_|refine .inl (sv ?_)|refine sv ?_|refine cl ?_|refine s3 ?_|refine az ?_|refine rm ?_|refine VBs.own ?_|refine cf r1 ?_|refine cg r1 ?_|refine cz r1 ?_|fail)<;>(try conv=>whnf))
  all_goals rfl
def wrapT (t : Tr8) (path : List ByteArray) : Tr8 := path.foldr (fun k c => .mk [] [(k, c)]) t
theorem wrapT_drop {t : Tr8} {path : List ByteArray} {i : Nat} (h : i < path.length) : wrapT t (path.drop i) = .mk [] [(path[i], wrapT t (path.drop (i + 1)))] := by
  rw [List.drop_eq_getElem_cons h]
  rfl
theorem wrap_t (t : Tr8) (path : List ByteArray) (hr : rightT 5 t = true) (hc : cntT t ≤ 1000000) (hn : path.length ≤ 5) (hk : path.any (fun k => !okKey k) = false) (he : emptyT t = false) (hd : deepT t + path.length ≤ 5) :
    AFnP Try.prog 19 [.agg [lstE entE t.es, lstE kidRow t.ks], lstE strE path] (.tup [.agg [lstE entE (wrapT t path).es, lstE kidRow (wrapT t path).ks], i64 0]) := by
  have r1 := tright_a t hc
  have r2 := containsStr_a path (by omega) (g := 43) (fun k => !okKey k) (fun k => wrap1_a k)
  have r3 := empty_a t
  have r4 := deep_a 5 t (by omega) hr hc
  have r5 := clone_o 4 t hr hc
  rw [hr] at r1
  rw [hk] at r2
  rw [he] at r3
  refine afnp_in ty_ok Try.call19 Try.func19 rfl rfl (by decide +kernel) ?_
  (try conv=>whnf)<;>repeat'((first|exact sNo|refine sT ?_|refine sF ?_|((first|refine sD ?_ ?_|refine sE ?_ ?_|refine sN ?_ ?_|refine sG ?_ ?_)<;>intro ht<;>(first|(cases ht;done)|skip))|refine wr ?_|refine ix ?_|refine ati ?_|refine row ?_|refine app ?_|refine dr ?_|refine VAnd.mk ?_ ?_|exact VJe.mk rfl ⟨rfl,rfl⟩|refine .inl (slM ?_)|refine .inl (slO ?_)|refine slM ?_|refine slO ?_|refine slN ?_|refine slS ?_|refine swB (swM fun C hC=>?_)|refine sj ?_|refine .inl (sv ?_)|refine sv ?_|refine cl ?_|refine s3 ?_|refine az ?_|refine rm ?_|refine VBs.own ?_|refine cf r1 ?_|refine cg r1 ?_|refine cz r1 ?_|refine cf r2 ?_|refine cg r2 ?_|refine cz r2 ?_|refine cf r3 ?_|refine cg r3 ?_|refine cz r3 ?_|refine cf r4 ?_|refine cg r4 ?_|refine cz r4 ?_|(refine co r5 ?_;rintro r h' ⟨rfl,rfl⟩)|fail)<;>(try conv=>whnf))
  clear r1 r2 r4 r5
  have r3e : AFnP Try.prog 16 [.agg [lstE entE t.es, lstE kidE t.ks]] (.bool false) := by rw [kidRow_fun] at r3; exact r3
  have rB : ∀ (k : ByteArray) (c : Tr8), AFnP Try.prog 16 [.agg [.lst 0 [], .lst 1 [[.str k, lstE entE c.es, lstE kidRow c.ks]]]] (.bool false) := fun k c => by
    have := empty_a (.mk [] [(k, c)])
    rw [kidRow_fun] at this
    rw [kidRow_fun]
    have e : emptyT (.mk [] [(k, c)]) = false := by simp [emptyT, Tr8.es, Tr8.ks]
    rw [e, ← kidRow_fun] at this
    rw [← kidRow_fun]
    have e2 : lstE kidRow (Tr8.mk [] [(k, c)]).ks = .lst 1 [[.str k, lstE entE c.es, lstE kidRow c.ks]] := by rw [kidRow_fun]; simp [lstE, kidE, Tr8.ks, kidRow_fun]
    rw [e2] at this
    exact this
  refine VLp.mk ⟨[], [], [2, 4, 6], fun k vs h => ∃ j : Nat, j ≤ path.length ∧ k = j ∧ vs = [.op 0 0, .op 1 0, i64 ((j : Int) - 1)] ∧ ((j = path.length ∧ h = [.blk 0 [lstE entE t.es, .own 2 t.ks.length] 25, .blk 1 [.nils, .nils] 25, .row 2 56 3 (t.ks.map kidE)]) ∨ (∃ hj : j < path.length, h = [.blk 0 [.nils, .own 2 1] 25, .blk 1 [.nils, .nils] 25, .row 2 56 3 [[.str path[j], lstE entE (wrapT t (path.drop (j + 1))).es, lstE kidRow (wrapT t (path.drop (j + 1))).ks]]])), path.length, ?_⟩
  conv => whnf
  refine ⟨⟨path.length, by omega, rfl, rfl, .inl ⟨rfl, rfl⟩⟩, ?_⟩
  rintro k vs h ⟨j, hj, rfl, rfl, ⟨hjl, rfl⟩ | ⟨hj1, rfl⟩⟩
  · rcases Nat.eq_zero_or_pos k with h0 | h0
    · have hp : path = [] := List.eq_nil_of_length_eq_zero (by omega)
      have e : wrapT t path = t := by rw [hp]; rfl
      rw [e]
      rw [kidRow_fun]
      (try conv=>whnf)<;>repeat'((first|exact sNo|refine sT ?_|refine sF ?_|((first|refine sD ?_ ?_|refine sE ?_ ?_|refine sN ?_ ?_|refine sG ?_ ?_)<;>intro ht<;>(first|(cases ht;done)|skip))|refine wr ?_|refine ix ?_|refine ati ?_|refine row ?_|refine app ?_|refine dr ?_|refine VAnd.mk ?_ ?_|exact VJe.mk rfl ⟨rfl,rfl⟩|refine .inl (slM ?_)|refine .inl (slO ?_)|refine slM ?_|refine slO ?_|refine slN ?_|refine slS ?_|refine swB (swM fun C hC=>?_)|refine sj ?_|refine .inl (sv ?_)|refine sv ?_|refine cl ?_|refine s3 ?_|refine az ?_|refine rm ?_|refine VBs.own ?_|fail)<;>(try conv=>whnf))
      all_goals rfl
    · obtain ⟨j0, hj0⟩ : ∃ j, k = j + 1 := ⟨k - 1, by omega⟩
      have hjj : (k : Int) - 1 = (j0 : Int) := by omega
      have hin : j0 < path.length := by omega
      have hdr : wrapT t (path.drop (j0 + 1)) = t := by rw [List.drop_of_length_le (by omega)]; rfl
      rw [hjj]
      (try conv=>whnf)<;>repeat'((first|(refine drx [] [] [2] ?_;(try conv=>whnf);(fail_if_success (show False)))|exact sNo|refine sT ?_|refine sF ?_|((first|refine sD ?_ ?_|refine sE ?_ ?_|refine sN ?_ ?_|refine sG ?_ ?_)<;>intro ht<;>(first|(cases ht;done)|skip))|refine wr ?_|refine ix ?_|refine ati ?_|refine row ?_|refine app ?_|refine dr ?_|refine VAnd.mk ?_ ?_|exact VJe.mk rfl ⟨rfl,rfl⟩|refine .inl (slM ?_)|refine .inl (slO ?_)|refine slM ?_|refine slO ?_|refine slN ?_|refine slS ?_|refine swB (swM fun C hC=>?_)|refine sj ?_|refine .inl (sv ?_)|refine sv ?_|refine cl ?_|refine s3 ?_|refine az ?_|refine rm ?_|refine VBs.own ?_|refine cf r3e ?_|refine cg r3e ?_|refine cz r3e ?_|fail)<;>(try conv=>whnf))
      all_goals exact VRd.mk rfl ⟨j0, by omega, j0, by omega, rfl, rfl, .inr ⟨hin, by rw [hdr, kidRow_fun]⟩⟩
  · generalize hC : wrapT t (path.drop (k + 1)) = c at *
    have r := rB path[k] c
    rcases Nat.eq_zero_or_pos k with h0 | h0
    · subst h0
      have e : wrapT t path = .mk [] [(path[0], c)] := by
        have := wrapT_drop (t := t) hj1
        rw [List.drop_zero, hC] at this
        exact this
      rw [e]
      have e2 : lstE kidRow (Tr8.mk [] [(path[0], c)]).ks = .lst 1 [[.str path[0], lstE entE c.es, lstE kidRow c.ks]] := by rw [kidRow_fun]; simp [lstE, kidE, Tr8.ks, kidRow_fun]
      rw [e2]
      (try conv=>whnf)<;>repeat'((first|exact sNo|refine sT ?_|refine sF ?_|((first|refine sD ?_ ?_|refine sE ?_ ?_|refine sN ?_ ?_|refine sG ?_ ?_)<;>intro ht<;>(first|(cases ht;done)|skip))|refine wr ?_|refine ix ?_|refine ati ?_|refine row ?_|refine app ?_|refine dr ?_|refine VAnd.mk ?_ ?_|exact VJe.mk rfl ⟨rfl,rfl⟩|refine .inl (slM ?_)|refine .inl (slO ?_)|refine slM ?_|refine slO ?_|refine slN ?_|refine slS ?_|refine swB (swM fun C hC=>?_)|refine sj ?_|refine .inl (sv ?_)|refine sv ?_|refine cl ?_|refine s3 ?_|refine az ?_|refine rm ?_|refine VBs.own ?_|fail)<;>(try conv=>whnf))
      all_goals rfl
    · obtain ⟨j0, hj0⟩ : ∃ j, k = j + 1 := ⟨k - 1, by omega⟩
      have hjj : (k : Int) - 1 = (j0 : Int) := by omega
      have hin : j0 < path.length := by omega
      have hdr : wrapT t (path.drop (j0 + 1)) = .mk [] [(path[k], c)] := by
        have := wrapT_drop (t := t) hj1
        rw [hC] at this
        rw [← hj0]
        exact this
      have e2 : lstE kidRow (Tr8.mk [] [(path[k], c)]).ks = .lst 1 [[.str path[k], lstE entE c.es, lstE kidRow c.ks]] := by rw [kidRow_fun]; simp [lstE, kidE, Tr8.ks, kidRow_fun]
      rw [hjj]
      (try conv=>whnf)<;>repeat'((first|(refine drx [] [] [2] ?_;(try conv=>whnf);(fail_if_success (show False)))|exact sNo|refine sT ?_|refine sF ?_|((first|refine sD ?_ ?_|refine sE ?_ ?_|refine sN ?_ ?_|refine sG ?_ ?_)<;>intro ht<;>(first|(cases ht;done)|skip))|refine wr ?_|refine ix ?_|refine ati ?_|refine row ?_|refine app ?_|refine dr ?_|refine VAnd.mk ?_ ?_|exact VJe.mk rfl ⟨rfl,rfl⟩|refine .inl (slM ?_)|refine .inl (slO ?_)|refine slM ?_|refine slO ?_|refine slN ?_|refine slS ?_|refine swB (swM fun C hC=>?_)|refine sj ?_|refine .inl (sv ?_)|refine sv ?_|refine cl ?_|refine s3 ?_|refine az ?_|refine rm ?_|refine VBs.own ?_|refine cf r ?_|refine cg r ?_|refine cz r ?_|fail)<;>(try conv=>whnf))
      all_goals exact VRd.mk rfl ⟨j0, by omega, j0, by omega, rfl, rfl, .inr ⟨hin, by rw [hdr, e2]; rfl⟩⟩
end Go.Proofs.Ytailblpjmgabjaa
