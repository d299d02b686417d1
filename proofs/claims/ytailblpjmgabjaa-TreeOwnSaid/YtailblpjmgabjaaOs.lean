/- What is proved: whoever writes a tree full, that lies in the arena, takes its rows out of it and changes nothing else. Conditions: none. -/
import Derived.Test.YtailblpjmgabjaaOo
namespace Go.Proofs.Ytailblpjmgabjaa
open Go.RowKit
set_option linter.unusedVariables false
set_option linter.unusedSimpArgs false
set_option maxRecDepth 100000
set_option maxHeartbeats 16000000
def scrib : ByteArray := ⟨#[115, 99, 114, 105, 98, 98, 108, 101]⟩
def scrE : List AV := [i64 0, i64 0, .str scrib, i64 0]
def scrK (x : Kd3) : List AV := [.str scrib, sv3 x.2.1, sv3 x.2.2]
theorem rep_set {α : Type} {s : α} : ∀ {i : Nat} {l : List α}, i < l.length → (List.replicate i s ++ l.drop i).set i s = List.replicate (i + 1) s ++ l.drop (i + 1)
  | i, l, h => by
    rw [List.set_append_right _ _ (by simp), List.length_replicate, Nat.sub_self, List.drop_eq_getElem_cons h, List.set_cons_zero, List.replicate_succ', List.append_assoc]
    rfl
theorem rep_get {α : Type} {s : α} {i : Nat} {l : List α} (h : i < l.length) : (List.replicate i s ++ l.drop i)[i]? = some l[i] := by
  rw [List.getElem?_append_right (by simp), List.length_replicate, Nat.sub_self, List.drop_eq_getElem_cons h]
  rfl
theorem mid_get {α β : Type} {f g : α → β} {i : Nat} {l : List α} (h : i < l.length) : ((l.take i).map g ++ (l.drop i).map f)[i]? = some (f l[i]) := by
  rw [List.getElem?_append_right (by simp; omega), List.length_map, List.length_take, Nat.min_eq_left (by omega), Nat.sub_self, List.drop_eq_getElem_cons h]
  rfl
theorem mid_set {α β : Type} {f g : α → β} {i : Nat} {l : List α} (h : i < l.length) : ((l.take i).map g ++ (l.drop i).map f).set i (g l[i]) = (l.take (i + 1)).map g ++ (l.drop (i + 1)).map f := by
  rw [List.set_append_right _ _ (by simp; omega), List.length_map, List.length_take, Nat.min_eq_left (by omega), Nat.sub_self, List.drop_eq_getElem_cons h, List.map_cons, List.set_cons_zero, ← take_snoc h, List.map_append, List.append_assoc]
  rfl
theorem OwnK_len : ∀ {ks : List (ByteArray × Tr8)} {xs : List Kd3} {Q : List RowD}, OwnK ks xs Q → xs.length = ks.length
  | [], xs, Q, h => by rw [OwnK] at h; rw [h.1]; rfl
  | x :: ks, xs, Q, h => by
    rw [OwnK_cons] at h
    obtain ⟨e, k, xs', Q1, Q2, rfl, rfl, _, h2⟩ := h
    rw [List.length_cons, List.length_cons, OwnK_len h2]
/-- the tree is taken out of the arena, and written full -/
def TakesT (Qr : List RowD) (Q1 : List RowD) : Prop := Q1.Perm Qr
theorem entV_rows (es : List Ent8) : RowsV (es.map entE) (es.map entV) := fun E => VLL_map fun e _ => entV_VL E e
theorem kdV_rows (xs : List Kd3) : RowsV (xs.map kdE) (xs.map kdV) := fun E => VLL_map fun x _ => by
  simp only [kdE, kdV, VL, V]
  exact ⟨_, _, rfl, rfl, _, _, rfl, rfl, _, _, rfl, rfl, rfl⟩
theorem scribA : ∀ (n : Nat) (t : Tr8), deepT t ≤ n → cntT t ≤ 1000000 → ∀ (a b : Sl3) (Qt Qr Q0 : List RowD), OwnT t a b Qt → Q0.Perm (Qt ++ Qr) → AFn Try.prog 27 [.agg [sv3 a, sv3 b]] [.bag 0 Q0] (fun r h' => r = .tup [] ∧ ∃ Q1, h' = [.bag 0 Q1] ∧ Q1.Perm Qr)
  | 0, t, hd, _, _, _, _, _, _, _, _ => by
    rw [deepT_eq t] at hd
    omega
  | n + 1, t, hd, hc, a, b, Qt, Qr, Q0, hO, hp => by
    have ih := scribA n
    rw [OwnT_iff] at hO
    obtain ⟨D1, D2, xs, Q, rfl, h1, h2, h3⟩ := hO
    have hxl := OwnK_len h3
    have hcnt := cntT_eq t
    refine AFn.open (D1 := D1) (D2 := D2) (Q := Q ++ Qr) (rows1 := t.es.map entE) (rows2 := xs.map kdE) Try.call27 h1.v h2.v hp (by rw [h1.rows]; exact entV_rows _) (by rw [h2.rows]; exact kdV_rows _) ?_
    rw [h1.E, h1.k, h2.E, h2.k, List.length_map, List.length_map]
    refine afn_in ty_ok Try.call27 Try.func27 rfl rfl (by decide +kernel) ?_
    (try conv=>whnf)<;>repeat'((first|exact sNo|refine sT ?_|refine sF ?_|((first|refine sD ?_ ?_|refine sE ?_ ?_|refine sN ?_ ?_|refine sG ?_ ?_)<;>intro ht<;>(first|(cases ht;done)|skip))|refine wr ?_|refine ix ?_|refine ati ?_|refine row ?_|refine app ?_|refine dr ?_|refine VAnd.mk ?_ ?_|exact VJe.mk rfl ⟨rfl,rfl⟩|refine .inl (slM ?_)|refine .inl (slO ?_)|refine slM ?_|refine slO ?_|refine slN ?_|refine slS ?_|refine swB (swM fun C hC=>?_)|refine sj ?_|refine .inl (sv ?_)|refine sv ?_|refine cl ?_|refine s3 ?_|refine az ?_|refine rm ?_|refine VBs.own ?_|fail)<;>(try conv=>whnf))
    refine VLp.mk ⟨[], [1], [7], fun k vs h => ∃ i : Nat, vs = [i64 i] ∧ h = [.bag 0 (Q ++ Qr), .row 1 63 4 (List.replicate i scrE ++ (t.es.map entE).drop i), .row 2 56 3 (xs.map kdE), .blk 3 [.own 1 t.es.length, .own 2 xs.length] 25] ∧ i ≤ t.es.length ∧ k = t.es.length - i, t.es.length, ?_⟩
    conv => whnf
    refine ⟨⟨0, rfl, rfl, by omega, by omega⟩, ?_⟩
    rintro k vs h ⟨i, rfl, rfl, hi, rfl⟩
    by_cases hin : i < t.es.length
    · have hg := rep_get (s := scrE) (i := i) (l := t.es.map entE) (by simpa using hin)
      rw [List.getElem_map] at hg
      have hs := rep_set (s := scrE) (i := i) (l := t.es.map entE) (by simpa using hin)
      (try conv=>whnf)<;>repeat'((first|exact sNo|refine sT ?_|refine sF ?_|((first|refine sD ?_ ?_|refine sE ?_ ?_|refine sN ?_ ?_|refine sG ?_ ?_)<;>intro ht<;>(first|(cases ht;done)|skip))|refine wr ?_|refine ix ?_|refine ati ?_|refine row ?_|refine app ?_|refine dr ?_|refine VAnd.mk ?_ ?_|exact VJe.mk rfl ⟨rfl,rfl⟩|refine .inl (slM ?_)|refine .inl (slO ?_)|refine slM ?_|refine slO ?_|refine slN ?_|refine slS ?_|refine swB (swM fun C hC=>?_)|refine sj ?_|refine .inl (sv ?_)|refine sv ?_|refine cl ?_|refine s3 ?_|refine az ?_|refine rm ?_|refine VBs.own ?_|fail)<;>(try conv=>whnf))
      all_goals exact VRd.mk rfl ⟨t.es.length - (i + 1), by omega, i + 1, rfl, by rw [← hs] <;> rfl, by omega, rfl⟩
    · (try conv=>whnf)<;>repeat'((first|exact sNo|refine sT ?_|refine sF ?_|((first|refine sD ?_ ?_|refine sE ?_ ?_|refine sN ?_ ?_|refine sG ?_ ?_)<;>intro ht<;>(first|(cases ht;done)|skip))|refine wr ?_|refine ix ?_|refine ati ?_|refine row ?_|refine app ?_|refine dr ?_|refine VAnd.mk ?_ ?_|exact VJe.mk rfl ⟨rfl,rfl⟩|refine .inl (slM ?_)|refine .inl (slO ?_)|refine slM ?_|refine slO ?_|refine slN ?_|refine slS ?_|refine swB (swM fun C hC=>?_)|refine sj ?_|refine .inl (sv ?_)|refine sv ?_|refine cl ?_|refine s3 ?_|refine az ?_|refine rm ?_|refine VBs.own ?_|fail)<;>(try conv=>whnf))
      refine VLp.mk ⟨[], [1], [19], fun k vs h => ∃ (i : Nat) (R1 : List (List AV)) (Qi Q2 : List RowD), vs = [i64 i] ∧ h = [.bag 0 Qi, .row 1 63 4 R1, .row 2 56 3 ((xs.take i).map scrK ++ (xs.drop i).map kdE), .blk 3 [.own 1 t.es.length, .own 2 xs.length] 25] ∧ i ≤ xs.length ∧ k = xs.length - i ∧ Qi.Perm (Q2 ++ Qr) ∧ OwnK (t.ks.drop i) (xs.drop i) Q2, xs.length, ?_⟩
      conv => whnf
      refine ⟨⟨0, _, Q ++ Qr, Q, rfl, rfl, by omega, by omega, List.Perm.refl _, h3⟩, ?_⟩
      rintro k vs h ⟨i, R1, Qi, Q2, rfl, rfl, hi, rfl, hpi, hoi⟩
      by_cases hin : i < xs.length
      · have hg := mid_get (f := kdE) (g := scrK) hin
        have hs := mid_set (f := kdE) (g := scrK) hin
        rw [List.drop_eq_getElem_cons hin, List.drop_eq_getElem_cons (show i < t.ks.length by omega), OwnK_cons] at hoi
        obtain ⟨e, k', xs', Qa, Qb, hxs, rfl, hot, hok⟩ := hoi
        obtain ⟨hx1, rfl⟩ := List.cons.inj hxs
        have hkd := deepT_kid (List.getElem_mem (show i < t.ks.length by omega))
        have hkc := cntK_mem (List.getElem_mem (show i < t.ks.length by omega))
        have r := ih t.ks[i].2 (by omega) (by omega) e k' Qa (Qb ++ Qr) Qi hot (by rw [← List.append_assoc]; exact hpi)
        have hx2 : xs[i].2.1 = e := by rw [hx1]
        have hx3 : xs[i].2.2 = k' := by rw [hx1]
        rw [← hx2, ← hx3] at r
        (try conv=>whnf)<;>repeat'((first|exact sNo|refine sT ?_|refine sF ?_|((first|refine sD ?_ ?_|refine sE ?_ ?_|refine sN ?_ ?_|refine sG ?_ ?_)<;>intro ht<;>(first|(cases ht;done)|skip))|refine wr ?_|refine ix ?_|refine ati ?_|refine row ?_|refine app ?_|refine dr ?_|refine VAnd.mk ?_ ?_|exact VJe.mk rfl ⟨rfl,rfl⟩|refine .inl (slM ?_)|refine .inl (slO ?_)|refine slM ?_|refine slO ?_|refine slN ?_|refine slS ?_|refine swB (swM fun C hC=>?_)|refine sj ?_|refine .inl (sv ?_)|refine sv ?_|refine cl ?_|refine s3 ?_|refine az ?_|refine rm ?_|refine VBs.own ?_|(refine ca r ?_;rintro r h' ⟨rfl,Q1,rfl,hp1⟩)|fail)<;>(try conv=>whnf))
        all_goals exact VRd.mk rfl ⟨xs.length - (i + 1), by omega, i + 1, R1, Q1, Qb, rfl, by rw [← hs] <;> rfl, by omega, rfl, hp1, hok⟩
      · have hno : t.ks.drop i = [] := List.drop_eq_nil_of_le (by omega)
        rw [hno, OwnK] at hoi
        obtain ⟨_, rfl⟩ := hoi
        (try conv=>whnf)<;>repeat'((first|exact sNo|refine sT ?_|refine sF ?_|((first|refine sD ?_ ?_|refine sE ?_ ?_|refine sN ?_ ?_|refine sG ?_ ?_)<;>intro ht<;>(first|(cases ht;done)|skip))|refine wr ?_|refine ix ?_|refine ati ?_|refine row ?_|refine app ?_|refine dr ?_|refine VAnd.mk ?_ ?_|exact VJe.mk rfl ⟨rfl,rfl⟩|refine .inl (slM ?_)|refine .inl (slO ?_)|refine slM ?_|refine slO ?_|refine slN ?_|refine slS ?_|refine swB (swM fun C hC=>?_)|refine sj ?_|refine .inl (sv ?_)|refine sv ?_|refine cl ?_|refine s3 ?_|refine az ?_|refine rm ?_|refine VBs.own ?_|fail)<;>(try conv=>whnf))
        all_goals exact VRt.mk rfl ⟨rfl, Qi, _, rfl, hpi⟩
end Go.Proofs.Ytailblpjmgabjaa
