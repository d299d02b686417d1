/- What is proved: what Small and Right of chapter 08's reference answer. Conditions: none. -/
import Derived.Test.YtailblpjmgabjaaTg
namespace Go.Proofs.Ytailblpjmgabjaa
open Go.RowKit
set_option linter.unusedVariables false
set_option linter.unusedSimpArgs false
set_option maxRecDepth 100000
set_option maxHeartbeats 16000000
/-! how much room there is left -/
def roomK (f : Tr8 → Int → Int) (stop : Bool) : List (ByteArray × Tr8) → Int → Int
  | [], l => l
  | x :: r, l => if l < 0 ∨ stop = true then -1 else roomK f stop r (f x.2 l)
def roomT : Nat → Tr8 → Int → Int
  | 0, t, l => roomK (fun _ _ => 0) true t.ks (l - t.es.length - t.ks.length)
  | d + 1, t, l => roomK (roomT d) false t.ks (l - t.es.length - t.ks.length)
mutual
def bndT : Tr8 → Prop
  | .mk es ks => es.length ≤ 1125899906842624 ∧ ks.length ≤ 1125899906842624 ∧ bndK ks
def bndK : List (ByteArray × Tr8) → Prop
  | [] => True
  | x :: r => bndX x ∧ bndK r
def bndX : ByteArray × Tr8 → Prop
  | (_, t) => bndT t
end
theorem bndT_eq (t : Tr8) : bndT t ↔ t.es.length ≤ 1125899906842624 ∧ t.ks.length ≤ 1125899906842624 ∧ bndK t.ks := by cases t; rfl
theorem bndX_eq (x : ByteArray × Tr8) : bndX x ↔ bndT x.2 := by obtain ⟨k, t⟩ := x; rfl
theorem bndK_mem : ∀ {ks : List (ByteArray × Tr8)} {x : ByteArray × Tr8}, bndK ks → x ∈ ks → bndT x.2
  | y :: r, x, h, hx => by
    rw [bndK, bndX_eq] at h
    rcases List.mem_cons.1 hx with rfl | hx
    · exact h.1
    · exact bndK_mem h.2 hx
theorem roomK_le {f : Tr8 → Int → Int} {stop : Bool} : ∀ (ks : List (ByteArray × Tr8)) (l : Int), (∀ x ∈ ks, ∀ l, 0 ≤ l → f x.2 l ≤ l) → roomK f stop ks l ≤ l ∨ roomK f stop ks l = -1
  | [], l, _ => .inl (Int.le_refl _)
  | x :: r, l, h => by
    rw [roomK]
    split
    · exact .inr rfl
    · rename_i hl
      have h1 := h x (List.mem_cons_self ..) l (by omega)
      rcases roomK_le (f := f) (stop := stop) r (f x.2 l) (fun y hy => h y (List.mem_cons_of_mem _ hy)) with h2 | h2
      · exact .inl (by omega)
      · exact .inr h2
theorem roomT_le : ∀ (d : Nat) (t : Tr8) (l : Int), 0 ≤ l → roomT d t l ≤ l
  | 0, t, l, hl => by
    rw [roomT]
    rcases roomK_le (stop := true) (f := fun _ _ => 0) t.ks (l - t.es.length - t.ks.length) (fun x _ l h => h) with h | h <;> omega
  | d + 1, t, l, hl => by
    rw [roomT]
    rcases roomK_le (stop := false) (f := roomT d) t.ks (l - t.es.length - t.ks.length) (fun x _ l h => roomT_le d x.2 l h) with h | h <;> omega
theorem roomK_low {f : Tr8 → Int → Int} {stop : Bool} {B : Int} (hB : B ≤ -1) : ∀ (ks : List (ByteArray × Tr8)) (l : Int), (∀ x ∈ ks, ∀ l, 0 ≤ l → B ≤ f x.2 l) → B ≤ l → B ≤ roomK f stop ks l
  | [], l, _, hl => hl
  | x :: r, l, h, hl => by
    rw [roomK]
    split
    · exact hB
    · rename_i h0
      exact roomK_low hB r _ (fun y hy => h y (List.mem_cons_of_mem _ hy)) (h x (List.mem_cons_self ..) l (by omega))
theorem roomT_low : ∀ (d : Nat) (t : Tr8) (l : Int), bndT t → 0 ≤ l → -2251799813685248 ≤ roomT d t l
  | 0, t, l, hb, hl => by
    have h := (bndT_eq t).1 hb
    rw [roomT]
    exact roomK_low (by omega) _ _ (fun x _ l _ => by omega) (by omega)
  | d + 1, t, l, hb, hl => by
    have h := (bndT_eq t).1 hb
    rw [roomT]
    exact roomK_low (by omega) _ _ (fun x hx l hl => roomT_low d x.2 l (bndK_mem h.2.2 hx) hl) (by omega)
theorem roomK_cnt {f : Tr8 → Int → Int} {stop : Bool} : ∀ (ks : List (ByteArray × Tr8)) (l : Int), (∀ x ∈ ks, ∀ l, 0 ≤ l → 0 ≤ f x.2 l → f x.2 l = l - cntT x.2) → 0 ≤ roomK f stop ks l → roomK f stop ks l = l - cntK ks
  | [], l, _, _ => by simp [roomK, cntK]
  | x :: r, l, h, h0 => by
    rw [roomK] at h0 ⊢
    split at h0
    · omega
    · rename_i hl
      rw [if_neg hl]
      have ih := roomK_cnt r (f x.2 l) (fun y hy => h y (List.mem_cons_of_mem _ hy)) h0
      rw [ih]
      rw [ih] at h0
      have h1 := h x (List.mem_cons_self ..) l (by omega) (by omega)
      rw [cntK, cntX_eq]
      omega
theorem roomT_cnt : ∀ (d : Nat) (t : Tr8) (l : Int), 0 ≤ l → 0 ≤ roomT d t l → roomT d t l = l - cntT t
  | 0, t, l, hl, h0 => by
    rw [roomT] at h0 ⊢
    cases hk : t.ks with
    | nil => rw [cntT_eq, hk]; first | (simp [roomK, cntK]; done) | (simp [roomK, cntK]; omega)
    | cons x r => rw [hk] at h0; simp [roomK] at h0
  | d + 1, t, l, hl, h0 => by
    rw [roomT] at h0 ⊢
    rw [roomK_cnt t.ks _ (fun x _ l h1 h2 => roomT_cnt d x.2 l h1 h2) h0, cntT_eq]
    omega
theorem room_a : ∀ (d : Nat) (t : Tr8) (l : Int), d ≤ 100 → bndT t → 0 ≤ l → l ≤ 1000000 → AFnP Try.prog 35 [.agg [lstE entE t.es, lstE kidRow t.ks], i64 l, i64 (d : Int)] (i64 (roomT d t l)) := by
  intro d
  induction d with
  | zero =>
    intro t l hd hb h0 h1
    have hbb := (bndT_eq t).1 hb
    rw [kidRow_fun, roomT]
    refine afnp_in ty_ok Try.call35 Try.func35 rfl rfl (by decide +kernel) ?_
    cases hk : t.ks with
    | nil =>
      rw [hk] at hbb
      have hl : ([] : List (ByteArray × Tr8)).length = 0 := rfl
      (try conv=>whnf)<;>repeat'((first|exact sNo|refine sT ?_|refine sF ?_|((first|refine sD ?_ ?_|refine sE ?_ ?_|refine sN ?_ ?_|refine sG ?_ ?_)<;>intro ht<;>(first|(cases ht;done)|skip))|refine wr ?_|refine ix ?_|refine ati ?_|refine row ?_|refine app ?_|refine dr ?_|refine VAnd.mk ?_ ?_|exact VJe.mk rfl ⟨rfl,rfl⟩|refine .inl (slM ?_)|refine .inl (slO ?_)|refine slM ?_|refine slO ?_|refine slN ?_|refine slS ?_|refine swB (swM fun C hC=>?_)|refine sj ?_|refine .inl (sv ?_)|refine sv ?_|refine cl ?_|refine s3 ?_|refine az ?_|refine rm ?_|refine VBs.own ?_|fail)<;>(try conv=>whnf))
      refine VLp.mk ⟨[], [], [1, 20], fun k vs h => vs = [i64 (l - t.es.length - 0), i64 0] ∧ h = [] ∧ k = 0, 0, ?_⟩
      conv => whnf
      refine ⟨⟨rfl, rfl, rfl⟩, ?_⟩
      rintro k vs h ⟨rfl, rfl, rfl⟩
      (try conv=>whnf)<;>repeat'((first|exact sNo|refine sT ?_|refine sF ?_|((first|refine sD ?_ ?_|refine sE ?_ ?_|refine sN ?_ ?_|refine sG ?_ ?_)<;>intro ht<;>(first|(cases ht;done)|skip))|refine wr ?_|refine ix ?_|refine ati ?_|refine row ?_|refine app ?_|refine dr ?_|refine VAnd.mk ?_ ?_|exact VJe.mk rfl ⟨rfl,rfl⟩|refine .inl (slM ?_)|refine .inl (slO ?_)|refine slM ?_|refine slO ?_|refine slN ?_|refine slS ?_|refine swB (swM fun C hC=>?_)|refine sj ?_|refine .inl (sv ?_)|refine sv ?_|refine cl ?_|refine s3 ?_|refine az ?_|refine rm ?_|refine VBs.own ?_|fail)<;>(try conv=>whnf))
      all_goals (simp [roomK, i64])
    | cons x r =>
      rw [hk] at hbb
      have hl : (x :: r).length = r.length + 1 := rfl
      have hb2 := hbb.2.1
      rw [hl] at hb2
      (try conv=>whnf)<;>repeat'((first|exact sNo|refine sT ?_|refine sF ?_|((first|refine sD ?_ ?_|refine sE ?_ ?_|refine sN ?_ ?_|refine sG ?_ ?_)<;>intro ht<;>(first|(cases ht;done)|skip))|refine wr ?_|refine ix ?_|refine ati ?_|refine row ?_|refine app ?_|refine dr ?_|refine VAnd.mk ?_ ?_|exact VJe.mk rfl ⟨rfl,rfl⟩|refine .inl (slM ?_)|refine .inl (slO ?_)|refine slM ?_|refine slO ?_|refine slN ?_|refine slS ?_|refine swB (swM fun C hC=>?_)|refine sj ?_|refine .inl (sv ?_)|refine sv ?_|refine cl ?_|refine s3 ?_|refine az ?_|refine rm ?_|refine VBs.own ?_|fail)<;>(try conv=>whnf))
      refine VLp.mk ⟨[], [3], [1, 20], fun k vs h => vs = [i64 (l - t.es.length - (x :: r).length), i64 0] ∧ h = [.blk 0 [lstE entE t.es, lstE kidE (x :: r)] 25] ∧ k = 0, 0, ?_⟩
      conv => whnf
      refine ⟨⟨rfl, rfl, rfl⟩, ?_⟩
      rintro k vs h ⟨rfl, rfl, rfl⟩
      (try conv=>whnf)<;>repeat'((first|exact sNo|refine sT ?_|refine sF ?_|((first|refine sD ?_ ?_|refine sE ?_ ?_|refine sN ?_ ?_|refine sG ?_ ?_)<;>intro ht<;>(first|(cases ht;done)|skip))|refine wr ?_|refine ix ?_|refine ati ?_|refine row ?_|refine app ?_|refine dr ?_|refine VAnd.mk ?_ ?_|exact VJe.mk rfl ⟨rfl,rfl⟩|refine .inl (slM ?_)|refine .inl (slO ?_)|refine slM ?_|refine slO ?_|refine slN ?_|refine slS ?_|refine swB (swM fun C hC=>?_)|refine sj ?_|refine .inl (sv ?_)|refine sv ?_|refine cl ?_|refine s3 ?_|refine az ?_|refine rm ?_|refine VBs.own ?_|fail)<;>(try conv=>whnf))
      all_goals simp [roomK]
  | succ d ih =>
    intro t l hd hb h0 h1
    have hbb := (bndT_eq t).1 hb
    obtain ⟨D, hD⟩ : ∃ D : Int, D = ((d + 1 : Nat) : Int) := ⟨_, rfl⟩
    rw [← hD, kidRow_fun, roomT]
    refine afnp_in ty_ok Try.call35 Try.func35 rfl rfl (by decide +kernel) ?_
    generalize hR : roomK (roomT d) false t.ks (l - t.es.length - t.ks.length) = R
    (try conv=>whnf)<;>repeat'((first|exact sNo|refine sT ?_|refine sF ?_|((first|refine sD ?_ ?_|refine sE ?_ ?_|refine sN ?_ ?_|refine sG ?_ ?_)<;>intro ht<;>(first|(cases ht;done)|skip))|refine wr ?_|refine ix ?_|refine ati ?_|refine row ?_|refine app ?_|refine dr ?_|refine VAnd.mk ?_ ?_|exact VJe.mk rfl ⟨rfl,rfl⟩|refine .inl (slM ?_)|refine .inl (slO ?_)|refine slM ?_|refine slO ?_|refine slN ?_|refine slS ?_|refine swB (swM fun C hC=>?_)|refine sj ?_|refine .inl (sv ?_)|refine sv ?_|refine cl ?_|refine s3 ?_|refine az ?_|refine rm ?_|refine VBs.own ?_|fail)<;>(try conv=>whnf))
    refine VLp.mk ⟨[], [3], [1, 20], fun k vs h => ∃ (i : Nat) (m : Int), vs = [i64 m, i64 i] ∧ h = [.blk 0 [lstE entE t.es, lstE kidE t.ks] 25] ∧ i ≤ t.ks.length ∧ k = t.ks.length - i ∧ roomK (roomT d) false (t.ks.drop i) m = R ∧ m ≤ 1000000 ∧ -9007199254740992 ≤ m, t.ks.length, ?_⟩
    conv => whnf
    refine ⟨⟨0, l - t.es.length - t.ks.length, rfl, rfl, by omega, by omega, hR, by omega, by omega⟩, ?_⟩
    rintro k vs h ⟨i, m, rfl, rfl, hi, rfl, hr, hm1, hm2⟩
    by_cases hin : i < t.ks.length
    · rw [List.drop_eq_getElem_cons hin, roomK] at hr
      by_cases hm : m < 0
      · rw [if_pos (.inl hm)] at hr
        subst hr
        (try conv=>whnf)<;>repeat'((first|exact sNo|refine sT ?_|refine sF ?_|((first|refine sD ?_ ?_|refine sE ?_ ?_|refine sN ?_ ?_|refine sG ?_ ?_)<;>intro ht<;>(first|(cases ht;done)|skip))|refine wr ?_|refine ix ?_|refine ati ?_|refine row ?_|refine app ?_|refine dr ?_|refine VAnd.mk ?_ ?_|exact VJe.mk rfl ⟨rfl,rfl⟩|refine .inl (slM ?_)|refine .inl (slO ?_)|refine slM ?_|refine slO ?_|refine slN ?_|refine slS ?_|refine swB (swM fun C hC=>?_)|refine sj ?_|refine .inl (sv ?_)|refine sv ?_|refine cl ?_|refine s3 ?_|refine az ?_|refine rm ?_|refine VBs.own ?_|fail)<;>(try conv=>whnf))
      · rw [if_neg (by simp; omega)] at hr
        have hbx := bndK_mem hbb.2.2 (List.getElem_mem hin)
        have r := ih t.ks[i].2 m (by omega) hbx (by omega) hm1
        rw [show (d : Int) = D - 1 by omega] at r
        have b1 := roomT_le d t.ks[i].2 m (by omega)
        have b2 := roomT_low d t.ks[i].2 m hbx (by omega)
        generalize roomT d t.ks[i].2 m = m' at *
        (try conv=>whnf)<;>repeat'((first|exact sNo|refine sT ?_|refine sF ?_|((first|refine sD ?_ ?_|refine sE ?_ ?_|refine sN ?_ ?_|refine sG ?_ ?_)<;>intro ht<;>(first|(cases ht;done)|skip))|refine wr ?_|refine ix ?_|refine ati ?_|refine row ?_|refine app ?_|refine dr ?_|refine VAnd.mk ?_ ?_|exact VJe.mk rfl ⟨rfl,rfl⟩|refine .inl (slM ?_)|refine .inl (slO ?_)|refine slM ?_|refine slO ?_|refine slN ?_|refine slS ?_|refine swB (swM fun C hC=>?_)|refine sj ?_|refine .inl (sv ?_)|refine sv ?_|refine cl ?_|refine s3 ?_|refine az ?_|refine rm ?_|refine VBs.own ?_|refine cf r ?_|refine cg r ?_|refine cz r ?_|fail)<;>(try conv=>whnf))
        all_goals exact VRd.mk rfl ⟨t.ks.length - (i + 1), by omega, i + 1, m', rfl, rfl, by omega, rfl, hr, by omega, by omega⟩
    · obtain rfl : i = t.ks.length := by omega
      rw [List.drop_length, roomK] at hr
      subst hr
      (try conv=>whnf)<;>repeat'((first|exact sNo|refine sT ?_|refine sF ?_|((first|refine sD ?_ ?_|refine sE ?_ ?_|refine sN ?_ ?_|refine sG ?_ ?_)<;>intro ht<;>(first|(cases ht;done)|skip))|refine wr ?_|refine ix ?_|refine ati ?_|refine row ?_|refine app ?_|refine dr ?_|refine VAnd.mk ?_ ?_|exact VJe.mk rfl ⟨rfl,rfl⟩|refine .inl (slM ?_)|refine .inl (slO ?_)|refine slM ?_|refine slO ?_|refine slN ?_|refine slS ?_|refine swB (swM fun C hC=>?_)|refine sj ?_|refine .inl (sv ?_)|refine sv ?_|refine cl ?_|refine s3 ?_|refine az ?_|refine rm ?_|refine VBs.own ?_|fail)<;>(try conv=>whnf))
theorem small_a (t : Tr8) (l : Int) (hb : bndT t) (h0 : 0 ≤ l) (h1 : l ≤ 1000000) : AFnP Try.prog 12 [.agg [lstE entE t.es, lstE kidRow t.ks], i64 l] (.bool (decide (0 ≤ roomT 8 t l))) := by
  refine afnp_in ty_ok Try.call12 Try.func12 rfl rfl (by decide +kernel) ?_
  have r : AFnP Try.prog 35 [.agg [lstE entE t.es, lstE kidRow t.ks], i64 l, i64 8] (i64 (roomT 8 t l)) := room_a 8 t l (by omega) hb h0 h1
  generalize roomT 8 t l = m at *
  (try conv=>whnf)<;>repeat'((first|exact sNo|refine sT ?_|refine sF ?_|((first|refine sD ?_ ?_|refine sE ?_ ?_|refine sN ?_ ?_|refine sG ?_ ?_)<;>intro ht<;>(first|(cases ht;done)|skip))|refine wr ?_|refine ix ?_|refine ati ?_|refine row ?_|refine app ?_|refine dr ?_|refine VAnd.mk ?_ ?_|exact VJe.mk rfl ⟨rfl,rfl⟩|refine .inl (slM ?_)|refine .inl (slO ?_)|refine slM ?_|refine slO ?_|refine slN ?_|refine slS ?_|refine swB (swM fun C hC=>?_)|refine sj ?_|refine .inl (sv ?_)|refine sv ?_|refine cl ?_|refine s3 ?_|refine az ?_|refine rm ?_|refine VBs.own ?_|refine cf r ?_|refine cg r ?_|refine cz r ?_|fail)<;>(try conv=>whnf))
  all_goals simp [*]
theorem small_cnt {t : Tr8} {l : Int} (h0 : 0 ≤ l) (h : decide (0 ≤ roomT 8 t l) = true) : (cntT t : Int) ≤ l := by
  have h := of_decide_eq_true h
  have := roomT_cnt 8 t l h0 h
  omega
theorem small_p (t : Tr8) (l : Int) (hb : bndT t) (h0 : 0 ≤ l) (h1 : l ≤ 1000000) {b : Bool} (h : decide (0 ≤ roomT 8 t l) = b) : AFnP Try.prog 12 [.agg [lstE entE t.es, lstE kidRow t.ks], i64 l] (.bool b) := by subst h; exact small_a t l hb h0 h1
end Go.Proofs.Ytailblpjmgabjaa
