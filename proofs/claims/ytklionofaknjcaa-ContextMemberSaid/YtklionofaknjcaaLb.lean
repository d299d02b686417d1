/- What is proved: chapter 06's law: plain sets. Conditions: none. -/
import Derived.Test.YtklionofaknjcaaRi
import Derived.Test.YtklionofaknjcaaRl
namespace Go.Proofs.Ytklionofaknjcaa
open Go.RowKit
set_option linter.unusedVariables false
set_option linter.unusedSimpArgs false
def srt (l : List (Int × Int)) : List (Int × Int) := l.mergeSort fun x y => decide (x.1 ≤ y.1)
theorem srt_perm (l : List (Int × Int)) : (srt l).Perm l := List.mergeSort_perm _ _
theorem srt_pw (l : List (Int × Int)) : (srt l).Pairwise (fun x y => x.1 ≤ y.1) := by
  have := List.pairwise_mergeSort (le := fun (x y : Int × Int) => decide (x.1 ≤ y.1)) (fun a b c h1 h2 => by simp only [decide_eq_true_eq] at *; omega) (fun a b => by simp only [Bool.or_eq_true, decide_eq_true_eq]; omega) l
  exact this.imp fun h => by simpa using h
def unL (a b : List (Int × Int)) : List (Int × Int) := (srt (a ++ b)).foldl joinStep []
def ofL (l : List Int) : List (Int × Int) := (srt (l.map one)).foldl joinStep []
theorem unL_is {a b : List (Int × Int)} (ha : rightL a = true) (hb : rightL b = true) : IsUn a b (unL a b) := un_join ha hb (srt_perm _) (srt_pw _)
theorem ofL_is {l : List Int} (hok : l.all okNum = true) : IsOf l (ofL l) := of_join (srt_perm _) (srt_pw _) (List.all_eq_true.1 hok)
theorem isUn_eq {a b x y : List (Int × Int)} (h : IsUn a b x) (h2 : IsUn a b y) : x = y := canonR h.1 h2.1 fun v => by rw [h.2.1 v, h2.2.1 v]
theorem isOf_eq {l : List Int} {x y : List (Int × Int)} (h : IsOf l x) (h2 : IsOf l y) : x = y := canonR h.1 h2.1 fun v => by rw [h.2 v, h2.2 v]
theorem union_p {a b : List (Int × Int)} (ha : rightL a = true) (hb : rightL b = true) (hal : a.length ≤ 500000) (hbl : b.length ≤ 500000) : AFnP Try.prog 54 [lstE runE a, lstE runE b] (lstE runE (unL a b)) :=
  ((union_a a b hal hbl).mono fun r h => by
    rcases h.ex with ⟨_, _, out, h1, rfl⟩ | ⟨h1, _⟩
    · rw [isUn_eq h1 (unL_is ha hb)]
    · rw [ha, hb] at h1; cases h1).toP
theorem union_n {a b : List (Int × Int)} (h : (rightL a && rightL b) = false) (hal : a.length ≤ 500000) (hbl : b.length ≤ 500000) : AFnP Try.prog 54 [lstE runE a, lstE runE b] (.lst 0 []) :=
  ((union_a a b hal hbl).mono fun r hr => by
    rcases hr.ex with ⟨h1, h2, _⟩ | ⟨_, h1⟩
    · rw [h1, h2] at h; cases h
    · exact h1).toP
theorem meet_p {a b : List (Int × Int)} (ha : rightL a = true) (hb : rightL b = true) (hal : a.length ≤ 500000) (hbl : b.length ≤ 500000) : AFnP Try.prog 55 [lstE runE a, lstE runE b] (lstE runE (meetL a b)) := by
  have := meet_a a b (by omega) (by omega)
  rwa [ha, hb, Bool.and_self, if_pos rfl] at this
theorem meet_n {a b : List (Int × Int)} (h : (rightL a && rightL b) = false) (hal : a.length ≤ 500000) (hbl : b.length ≤ 500000) : AFnP Try.prog 55 [lstE runE a, lstE runE b] (.lst 0 []) := by
  have := meet_a a b (by omega) (by omega)
  rw [h] at this
  exact this
theorem minus_p {a b : List (Int × Int)} (ha : rightL a = true) (hb : rightL b = true) (hal : a.length ≤ 40000) (hbl : b.length ≤ 40000) : AFnP Try.prog 56 [lstE runE a, lstE runE b] (lstE runE (minusL a b)) := by
  have := minus_a a b (by omega) (by omega)
  rwa [ha, hb, Bool.and_self, if_pos rfl] at this
theorem minus_n {a b : List (Int × Int)} (h : (rightL a && rightL b) = false) (hal : a.length ≤ 40000) (hbl : b.length ≤ 40000) : AFnP Try.prog 56 [lstE runE a, lstE runE b] (.lst 0 []) := by
  have := minus_a a b (by omega) (by omega)
  rw [h] at this
  exact this
theorem of_p {l : List Int} (hok : l.all okNum = true) (hn : l.length ≤ 1000000) : AFnP Try.prog 42 [lstE intE l] (.tup [lstE runE (ofL l), i64 0]) :=
  ((of_a l hn).mono fun r h => by
    rcases h.ex with ⟨_, out, h1, _, rfl⟩ | ⟨h1, _⟩
    · rw [isOf_eq h1 (ofL_is hok)]
    · rw [hok] at h1; cases h1).toP
theorem of_n {l : List Int} (hok : l.all okNum = false) (hn : l.length ≤ 1000000) : AFnP Try.prog 42 [lstE intE l] (.tup [.lst 0 [], i64 1]) :=
  ((of_a l hn).mono fun r h => by
    rcases h.ex with ⟨h1, _⟩ | ⟨_, h1⟩
    · rw [hok] at h1; cases h1
    · exact h1).toP
theorem rof_p {l : List Int} (hok : l.all okNum = true) (hn : l.length ≤ 1000000) : AFnP Try.prog 45 [lstE intE l] (lstE runE (ofL l)) :=
  ((rof_a l hn hok).mono fun r h => by
    obtain ⟨out, h1, _, rfl⟩ := h.ex
    rw [isOf_eq h1 (ofL_is hok)]).toP
theorem ofL_len {l : List Int} : (ofL l).length ≤ l.length := by
  have := joinStep_len (srt (l.map one)) []
  rw [(srt_perm _).length_eq] at this
  simpa [ofL] using this
theorem opL_iff {how : Int} {a b : List (Int × Int)} {y : Int} : opL how a b y = true ↔ (if how = 1 then hasL a y ∧ hasL b y else if how = 2 then hasL a y ∧ ¬ hasL b y else hasL a y ∨ hasL b y) := by
  have h1 := any_has (l := a) (y := y)
  have h2 := any_has (l := b) (y := y)
  unfold opL opH
  cases h3 : a.any (inRun y) <;> cases h4 : b.any (inRun y) <;> rw [h3] at h1 <;> rw [h4] at h2 <;> simp only [Bool.false_eq_true, false_iff, true_iff] at h1 h2 <;> (repeat' split) <;> simp [h1, h2]
theorem by0_p {a b : List (Int × Int)} (ha : rightL a = true) (hb : rightL b = true) (hal : a.length ≤ 1000) (hbl : b.length ≤ 1000) : AFnP Try.prog 58 [lstE runE a, lstE runE b, i64 0] (lstE runE (unL a b)) :=
  ((by_a 0 (.inl rfl) a b hal hbl ha hb).mono fun r h => by
    obtain ⟨out, h1, _, rfl⟩ := h.ex
    have hu := unL_is ha hb
    rw [canonR h1.1 hu.1 fun v => by rw [h1.2 v, opL_iff, hu.2.1 v]; simp]).toP
theorem by1_p {a b : List (Int × Int)} (ha : rightL a = true) (hb : rightL b = true) (hal : a.length ≤ 1000) (hbl : b.length ≤ 1000) : AFnP Try.prog 58 [lstE runE a, lstE runE b, i64 1] (lstE runE (meetL a b)) :=
  ((by_a 1 (.inr (.inl rfl)) a b hal hbl ha hb).mono fun r h => by
    obtain ⟨out, h1, _, rfl⟩ := h.ex
    have hu := meet_spec _ a b (Nat.le_refl _) (rightL_iff.1 ha) (rightL_iff.1 hb)
    rw [canonR h1.1 hu.1 fun v => by rw [h1.2 v, opL_iff, hu.2.1 v]; simp]).toP
theorem by2_p {a b : List (Int × Int)} (ha : rightL a = true) (hb : rightL b = true) (hal : a.length ≤ 1000) (hbl : b.length ≤ 1000) : AFnP Try.prog 58 [lstE runE a, lstE runE b, i64 2] (lstE runE (minusL a b)) :=
  ((by_a 2 (.inr (.inr rfl)) a b hal hbl ha hb).mono fun r h => by
    obtain ⟨out, h1, _, rfl⟩ := h.ex
    have hu := minus_spec (rightL_iff.1 ha) (rightL_iff.1 hb)
    rw [canonR h1.1 hu.1 fun v => by rw [h1.2 v, opL_iff, hu.2.1 v]; simp]).toP
theorem has_p {l : List (Int × Int)} (hn : l.length ≤ 1000000) {n : Int} {t : Bool} (ht : hasB l n = t) : AFnP Try.prog 47 [lstE runE l, i64 n] (.bool t) := by subst ht; exact has_a l hn n
theorem right_p {l : List (Int × Int)} (hn : l.length ≤ 1000000) {t : Bool} (ht : rightL l = t) : AFnP Try.prog 65 [lstE runE l] (.bool t) := by subst ht; exact right_a l hn
theorem rright_p {l : List (Int × Int)} (hn : l.length ≤ 1000000) {t : Bool} (ht : rightL l = t) : AFnP Try.prog 48 [lstE runE l] (.bool t) := by subst ht; exact rright_a l hn
theorem front_p {l : List (Int × Int)} (hn : l.length ≤ 1000000) {t : Int} (ht : frontL l = t) : AFnP Try.prog 50 [lstE runE l] (i64 t) := by subst ht; exact front_a l hn
theorem count_p {l : List (Int × Int)} (hn : l.length ≤ 1000000) {t : Int} (ht : countL l = t) : AFnP Try.prog 51 [lstE runE l] (i64 t) := by subst ht; exact count_a l hn
theorem hasB_right {l : List (Int × Int)} (h : RightP l) {n : Int} : hasB l n = true ↔ hasL l n := by
  unfold hasB; rw [rightL_iff.2 h, Bool.true_and, any_has]
theorem hasB_eq {l : List (Int × Int)} (h : RightP l) {n : Int} {t : Bool} (ht : hasL l n ↔ t = true) : hasB l n = t := by
  cases t with
  | true => exact (hasB_right h).2 (ht.2 rfl)
  | false =>
    cases hb : hasB l n with
    | false => rfl
    | true => exact absurd (ht.1 ((hasB_right h).1 hb)) (by decide)
theorem front_spec {l : List (Int × Int)} (h : rightL l = true) : 0 ≤ frontL l ∧ frontL l ≤ 1099511627776 ∧ hasB l (frontL l + 1) = false ∧ ∀ y, 1 ≤ y → y ≤ frontL l → hasB l y = true := by
  have hP := rightL_iff.1 h
  have hno : ¬ hasL l (frontL l + 1) → hasB l (frontL l + 1) = false := fun hh => hasB_eq hP (by simp [hh])
  cases l with
  | nil =>
    have : frontL [] = 0 := by simp [frontL, h]
    rw [this] at hno ⊢
    exact ⟨by omega, by omega, hno not_hasL_nil, fun y h1 h2 => by omega⟩
  | cons x l =>
    have hx := hP.1 x (List.mem_cons_self ..)
    unfold okP at hx
    by_cases h1 : x.1 = 1
    · have hf : frontL (x :: l) = x.2 := by simp [frontL, h, h1]
      rw [hf] at hno ⊢
      refine ⟨by omega, by omega, hno fun hh => ?_, fun y k1 k2 => (hasB_right hP).2 (hasL_cons.2 (.inl ⟨by omega, k2⟩))⟩
      rcases hasL_cons.1 hh with k | k
      · omega
      · have := hP.above k; omega
    · have hf : frontL (x :: l) = 0 := by simp [frontL, h, h1]
      rw [hf] at hno ⊢
      refine ⟨by omega, by omega, hno fun hh => ?_, fun y k1 k2 => by omega⟩
      rcases hasL_cons.1 hh with k | k
      · omega
      · have := hP.above k; omega
/-! how many numbers there are -/
def cnt (N : Nat) (p : Int → Bool) : Nat := (List.range N).countP fun (i : Nat) => p (i : Int)
theorem cnt_succ (N : Nat) (p : Int → Bool) : cnt (N + 1) p = cnt N p + if p (N : Int) = true then 1 else 0 := by
  unfold cnt
  rw [List.range_succ, List.countP_append]
  simp
theorem cnt_run {x : Int × Int} (h0 : 0 ≤ x.1) (h1 : x.1 ≤ x.2 + 1) : ∀ N : Nat, (cnt N (inRun · x) : Int) = (if x.2 + 1 ≤ N then x.2 + 1 else (N : Int)) - (if x.1 ≤ N then x.1 else (N : Int))
  | 0 => by
    have : cnt 0 (inRun · x) = 0 := rfl
    rw [this]
    split <;> split <;> omega
  | N + 1 => by
    rw [cnt_succ, Int.natCast_add, cnt_run h0 h1 N]
    have : (((if inRun (N : Int) x = true then 1 else 0 : Nat)) : Int) = if x.1 ≤ N ∧ N ≤ x.2 then 1 else 0 := by
      simp only [inRun, Bool.and_eq_true, decide_eq_true_eq]
      split <;> rfl
    rw [this]
    repeat' split
    all_goals omega
theorem cnt_or {p q : Int → Bool} (h : ∀ y, ¬ (p y = true ∧ q y = true)) : ∀ N : Nat, cnt N (fun y => p y || q y) = cnt N p + cnt N q
  | 0 => rfl
  | N + 1 => by
    rw [cnt_succ, cnt_succ, cnt_succ, cnt_or h N]
    have := h (N : Int)
    cases h1 : p (N : Int) <;> cases h2 : q (N : Int) <;> rw [h1, h2] at this <;> simp at this ⊢ <;> omega
theorem cnt_congr {p q : Int → Bool} (h : ∀ y, p y = q y) (N : Nat) : cnt N p = cnt N q := by
  have : p = q := funext h
  rw [this]
theorem sum_cnt : ∀ {l : List (Int × Int)}, RightP l → ∀ N : Nat, 1099511627777 ≤ N → sumL l = (cnt N (fun y => l.any (inRun y)) : Int)
  | [], _, N, _ => by
    have : ∀ N, cnt N (fun y => ([] : List (Int × Int)).any (inRun y)) = 0 := fun N => by
      unfold cnt; rw [List.countP_eq_zero]; intro a _; simp
    rw [this]; rfl
  | x :: l, h, N, hN => by
    have hx := h.1 x (List.mem_cons_self ..)
    unfold okP at hx
    have h1 := sum_cnt h.tail N hN
    have h2 : cnt N (fun y => (x :: l).any (inRun y)) = cnt N (inRun · x) + cnt N (fun y => l.any (inRun y)) := by
      rw [← cnt_or (p := (inRun · x)) (q := fun y => l.any (inRun y)) (fun y hy => by
        have k1 := hy.1
        simp only [inRun, Bool.and_eq_true, decide_eq_true_eq] at k1
        have k2 := h.above (any_has.1 hy.2)
        omega) N]
      rfl
    have h3 : sumL (x :: l) = (x.2 - x.1 + 1) + sumL l := by simp [sumL]
    rw [h2, h3, h1, Int.natCast_add, cnt_run (by omega) (by omega) N, if_pos (by omega), if_pos (by omega)]
    omega
theorem count_add {l m : List (Int × Int)} (hl : RightP l) (hm : RightP m) {n : Int} (hn : 1 ≤ n ∧ n ≤ 1099511627776) (h : ∀ y, hasL m y ↔ hasL l y ∨ y = n) : countL m = countL l + (if hasB l n = true then 0 else 1) := by
  unfold countL
  rw [if_pos (rightL_iff.2 hl), if_pos (rightL_iff.2 hm)]
  by_cases hb : hasB l n = true
  · rw [if_pos hb]
    have : m = l := canonR hm hl fun y => by
      rw [h y]
      constructor
      · rintro (k | rfl)
        · exact k
        · exact (hasB_right hl).1 hb
      · exact .inl
    rw [this]; omega
  · rw [if_neg hb]
    have hno : ¬ hasL l n := fun k => hb ((hasB_right hl).2 k)
    generalize hN : (1099511627777 : Nat) = N
    rw [sum_cnt hl N (by omega), sum_cnt hm N (by omega)]
    have h2 : cnt N (fun y => m.any (inRun y)) = cnt N (fun y => l.any (inRun y)) + cnt N (inRun · (n, n)) := by
      rw [← cnt_or (p := fun y => l.any (inRun y)) (q := (inRun · (n, n))) (fun y hy => by
        have k2 := hy.2
        simp only [inRun, Bool.and_eq_true, decide_eq_true_eq] at k2
        have : y = n := by omega
        subst this
        exact hno (any_has.1 hy.1)) N]
      refine cnt_congr (fun y => ?_) N
      rw [Bool.eq_iff_iff, any_has, h y, Bool.or_eq_true, any_has]
      simp only [inRun, Bool.and_eq_true, decide_eq_true_eq]
      constructor
      · rintro (k | k)
        · exact .inl k
        · exact .inr (by omega)
      · rintro (k | k)
        · exact .inl k
        · exact .inr (by omega)
    rw [h2, Int.natCast_add, cnt_run (x := (n, n)) (by dsimp only; omega) (by dsimp only; omega) N, if_pos (by dsimp only; omega), if_pos (by dsimp only; omega)]
    dsimp only
    omega
end Go.Proofs.Ytklionofaknjcaa
