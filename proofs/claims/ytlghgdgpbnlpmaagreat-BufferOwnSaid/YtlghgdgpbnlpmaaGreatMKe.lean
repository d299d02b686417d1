/- What is proved: what Same, spans, Part, Right of chapter 07's reference answer. Conditions: none. -/
import Derived.Test.YtlghgdgpbnlpmaaGreatMKb
import Derived.Test.YtlghgdgpbnlpmaaGreatMKd
import Derived.Test.YtlghgdgpbnlpmaaGreatMTb
import Derived.Test.YtlghgdgpbnlpmaaGreatMTa
namespace Go.Proofs.YtlghgdgpbnlpmaaGreat
open Go.RowKit
set_option linter.unusedVariables false
set_option linter.unusedSimpArgs false
set_option maxRecDepth 100000
set_option maxHeartbeats 16000000
theorem eq_takeK {α : Type} {a b : List α} {i : Nat} (ha : i < a.length) (hb : i < b.length) (h : a.take i = b.take i) (he : a[i] = b[i]) : a.take (i + 1) = b.take (i + 1) := by
  rw [← take_snoc ha, ← take_snoc hb, h, he]
theorem rsameC_a (a b : List Spn) (ha : a.length ≤ 1000000) (hb : b.length ≤ 1000000) : AFnP Tryz.prog 95 [lstE spE a, lstE spE b] (.bool (decide (a = b))) := by
  refine afnp_in ty_ok Tryz.call95 Tryz.func95 rfl rfl (by decide +kernel) ?_
  by_cases hl : a.length = b.length
  · (try conv=>whnf)<;>repeat'((first|exact sNo|refine sT ?_|refine sF ?_|((first|refine sD ?_ ?_|refine sE ?_ ?_|refine sN ?_ ?_|refine sG ?_ ?_)<;>intro ht<;>(first|(cases ht;done)|skip))|refine wr ?_|refine ix ?_|refine ati ?_|refine row ?_|refine app ?_|refine dr ?_|refine VBs.own ?_|fail)<;>(try conv=>whnf))
    refine VLp.mk ⟨[], [], [13], fun k vs h => ∃ i : Nat, vs = [i64 i] ∧ h = [] ∧ i ≤ a.length ∧ k = a.length - i ∧ a.take i = b.take i, a.length, ?_⟩
    conv => whnf
    refine ⟨⟨0, rfl, rfl, by omega, by omega, rfl⟩, ?_⟩
    rintro k vs h ⟨i, rfl, rfl, hi, rfl, hg⟩
    by_cases hin : i < a.length
    · have hin2 : i < b.length := by omega
      have hne : ∀ (h : a[i].1 = b[i].1 ∧ a[i].2.1 = b[i].2.1 ∧ a[i].2.2 = b[i].2.2), a[i] = b[i] := fun h => Prod.ext h.1 (Prod.ext h.2.1 h.2.2)
      (try conv=>whnf)<;>repeat'((first|exact sNo|refine sT ?_|refine sF ?_|((first|refine sD ?_ ?_|refine sE ?_ ?_|refine sN ?_ ?_|refine sG ?_ ?_)<;>intro ht<;>(first|(cases ht;done)|skip))|refine wr ?_|refine ix ?_|refine ati ?_|refine row ?_|refine app ?_|refine dr ?_|refine VBs.own ?_|fail)<;>(try conv=>whnf))
      · have he : a[i] = b[i] := hne (by simpa using ht)
        exact VRd.mk rfl ⟨a.length - (i + 1), by omega, i + 1, rfl, rfl, by omega, rfl, eq_takeK hin hin2 hg he⟩
      · refine congrArg AV.bool (decide_eq_false ?_).symm
        rintro rfl
        simp at ht
    · (try conv=>whnf)<;>repeat'((first|exact sNo|refine sT ?_|refine sF ?_|((first|refine sD ?_ ?_|refine sE ?_ ?_|refine sN ?_ ?_|refine sG ?_ ?_)<;>intro ht<;>(first|(cases ht;done)|skip))|refine wr ?_|refine ix ?_|refine ati ?_|refine row ?_|refine app ?_|refine dr ?_|refine VBs.own ?_|fail)<;>(try conv=>whnf))
      rw [List.take_of_length_le (by omega), List.take_of_length_le (by omega)] at hg
      subst hg
      simp
  · have hne : a ≠ b := fun e => hl (by rw [e])
    rw [decide_eq_false hne]
    (try conv=>whnf)<;>repeat'((first|exact sNo|refine sT ?_|refine sF ?_|((first|refine sD ?_ ?_|refine sE ?_ ?_|refine sN ?_ ?_|refine sG ?_ ?_)<;>intro ht<;>(first|(cases ht;done)|skip))|refine wr ?_|refine ix ?_|refine ati ?_|refine row ?_|refine app ?_|refine dr ?_|refine VBs.own ?_|fail)<;>(try conv=>whnf))
theorem spans_a (d : Int) (l : List (Int × Int)) (hn : l.length ≤ 1000000) : AFnP Tryz.prog 98 [i64 d, lstE runE l] (lstE spE (l.map (spn d))) := by
  refine afnp_in ty_ok Tryz.call98 Tryz.func98 rfl rfl (by decide +kernel) ?_
  (try conv=>whnf)<;>repeat'((first|exact sNo|refine sT ?_|refine sF ?_|((first|refine sD ?_ ?_|refine sE ?_ ?_|refine sN ?_ ?_|refine sG ?_ ?_)<;>intro ht<;>(first|(cases ht;done)|skip))|refine wr ?_|refine ix ?_|refine ati ?_|refine row ?_|refine app ?_|refine dr ?_|refine VBs.own ?_|fail)<;>(try conv=>whnf))
  refine VLp.mk ⟨[.slot 5 128 3], [], [5, 9], fun k vs h => ∃ i : Nat, vs = [.own 0 i, i64 i] ∧ h = [.row 0 128 3 (((l.take i).map (spn d)).map spE)] ∧ i ≤ l.length ∧ k = l.length - i, l.length, ?_⟩
  conv => whnf
  refine ⟨⟨0, rfl, rfl, by omega, by omega⟩, ?_⟩
  rintro k vs h ⟨i, rfl, rfl, hi, rfl⟩
  by_cases hin : i < l.length
  · (try conv=>whnf)<;>repeat'((first|exact sNo|refine sT ?_|refine sF ?_|((first|refine sD ?_ ?_|refine sE ?_ ?_|refine sN ?_ ?_|refine sG ?_ ?_)<;>intro ht<;>(first|(cases ht;done)|skip))|refine wr ?_|refine ix ?_|refine ati ?_|refine row ?_|refine app ?_|refine dr ?_|refine VBs.own ?_|fail)<;>(try conv=>whnf))
    refine VRd.mk rfl ⟨l.length - (i + 1), by omega, i + 1, rfl, ?_, by omega, rfl⟩
    rw [← take_snoc hin]
    simp only [List.map_append]
    rfl
  · obtain rfl : i = l.length := by omega
    rw [List.take_length]
    (try conv=>whnf)<;>repeat'((first|exact sNo|refine sT ?_|refine sF ?_|((first|refine sD ?_ ?_|refine sE ?_ ?_|refine sN ?_ ?_|refine sG ?_ ?_)<;>intro ht<;>(first|(cases ht;done)|skip))|refine wr ?_|refine ix ?_|refine ati ?_|refine row ?_|refine app ?_|refine dr ?_|refine VBs.own ?_|fail)<;>(try conv=>whnf))
    unfold lstE
    rw [List.length_map]
theorem rpart_a (c : List Spn) (hn : c.length ≤ 1000000) (d : Int) : AFnP Tryz.prog 100 [lstE spE c, i64 d] (lstE runE (part c d)) := by
  refine afnp_in ty_ok Tryz.call100 Tryz.func100 rfl rfl (by decide +kernel) ?_
  (try conv=>whnf)<;>repeat'((first|exact sNo|refine sT ?_|refine sF ?_|((first|refine sD ?_ ?_|refine sE ?_ ?_|refine sN ?_ ?_|refine sG ?_ ?_)<;>intro ht<;>(first|(cases ht;done)|skip))|refine wr ?_|refine ix ?_|refine ati ?_|refine row ?_|refine app ?_|refine dr ?_|refine VBs.own ?_|fail)<;>(try conv=>whnf))
  refine VLp.mk ⟨[.slot 5 181 2], [], [5, 9], fun k vs h => ∃ i : Nat, vs = [.own 0 (part (c.take i) d).length, i64 i] ∧ h = [.row 0 181 2 ((part (c.take i) d).map runE)] ∧ i ≤ c.length ∧ k = c.length - i, c.length, ?_⟩
  conv => whnf
  refine ⟨⟨0, rfl, rfl, by omega, by omega⟩, ?_⟩
  rintro k vs h ⟨i, rfl, rfl, hi, rfl⟩
  by_cases hin : i < c.length
  · have e := part_take hin d
    have hl := part_take_len c i d
    by_cases hd : c[i].1 = d
    · rw [if_pos hd] at e
      generalize part (c.take i) d = P at *
      (try conv=>whnf)<;>repeat'((first|exact sNo|refine sT ?_|refine sF ?_|((first|refine sD ?_ ?_|refine sE ?_ ?_|refine sN ?_ ?_|refine sG ?_ ?_)<;>intro ht<;>(first|(cases ht;done)|skip))|refine wr ?_|refine ix ?_|refine ati ?_|refine row ?_|refine app ?_|refine dr ?_|refine VBs.own ?_|fail)<;>(try conv=>whnf))
      exact VRd.mk rfl ⟨c.length - (i + 1), by omega, i + 1, by rw [e]; simp [i64], by rw [e]; simp [runE], by omega, rfl⟩
    · rw [if_neg hd, List.append_nil] at e
      generalize part (c.take i) d = P at *
      (try conv=>whnf)<;>repeat'((first|exact sNo|refine sT ?_|refine sF ?_|((first|refine sD ?_ ?_|refine sE ?_ ?_|refine sN ?_ ?_|refine sG ?_ ?_)<;>intro ht<;>(first|(cases ht;done)|skip))|refine wr ?_|refine ix ?_|refine ati ?_|refine row ?_|refine app ?_|refine dr ?_|refine VBs.own ?_|fail)<;>(try conv=>whnf))
      exact VRd.mk rfl ⟨c.length - (i + 1), by omega, i + 1, by rw [e]; simp [i64], by rw [e], by omega, rfl⟩
  · obtain rfl : i = c.length := by omega
    rw [List.take_length]
    (try conv=>whnf)<;>repeat'((first|exact sNo|refine sT ?_|refine sF ?_|((first|refine sD ?_ ?_|refine sE ?_ ?_|refine sN ?_ ?_|refine sG ?_ ?_)<;>intro ht<;>(first|(cases ht;done)|skip))|refine wr ?_|refine ix ?_|refine ati ?_|refine row ?_|refine app ?_|refine dr ?_|refine VBs.own ?_|fail)<;>(try conv=>whnf))
theorem rightC_no2 {c : List Spn} (d : Nat) (h : d < 4) (hr : rightL (part c d) = false) : rightC c = false := by
  unfold rightC
  have : d = 0 ∨ d = 1 ∨ d = 2 ∨ d = 3 := by omega
  rcases this with rfl | rfl | rfl | rfl <;> simp at hr <;> simp [hr]
theorem rrightC_a (c : List Spn) (hn : c.length ≤ 1000000) : AFnP Tryz.prog 97 [lstE spE c] (.bool (rightC c)) := by
  refine afnp_in ty_ok Tryz.call97 Tryz.func97 rfl rfl (by decide +kernel) ?_
  (try conv=>whnf)<;>repeat'((first|exact sNo|refine sT ?_|refine sF ?_|((first|refine sD ?_ ?_|refine sE ?_ ?_|refine sN ?_ ?_|refine sG ?_ ?_)<;>intro ht<;>(first|(cases ht;done)|skip))|refine wr ?_|refine ix ?_|refine ati ?_|refine row ?_|refine app ?_|refine dr ?_|refine VBs.own ?_|fail)<;>(try conv=>whnf))
  refine VLp.mk ⟨[], [], [7], fun k vs h => ∃ i : Nat, vs = [i64 i] ∧ h = [] ∧ i ≤ c.length ∧ k = c.length - i ∧ ∀ j, j < i → goodS c j = true, c.length, ?_⟩
  conv => whnf
  refine ⟨⟨0, rfl, rfl, by omega, by omega, by omega⟩, ?_⟩
  rintro k vs h ⟨i, rfl, rfl, hi, rfl, hg⟩
  by_cases hin : i < c.length
  · have hgi := goodS_iff hin
    have hgi' := goodS_iff' hin
    rcases Nat.eq_zero_or_pos i with h0 | h0
    · (try conv=>whnf)<;>repeat'((first|exact sNo|refine sT ?_|refine sF ?_|((first|refine sD ?_ ?_|refine sE ?_ ?_|refine sN ?_ ?_|refine sG ?_ ?_)<;>intro ht<;>(first|(cases ht;done)|skip))|refine wr ?_|refine ix ?_|refine ati ?_|refine row ?_|refine app ?_|refine dr ?_|refine VBs.own ?_|fail)<;>(try conv=>whnf))
      all_goals first
        | (refine congrArg AV.bool (rightC_no hin (hgi'.2 ?_)).symm; omega)
        | (have hok : goodS c i = true := hgi.2 (by omega)
           exact VRd.mk rfl ⟨c.length - (i + 1), by omega, i + 1, rfl, rfl, by omega, rfl, fun j hj => by rcases Nat.lt_succ_iff_lt_or_eq.1 hj with h | rfl; exact hg j h; exact hok⟩)
    · obtain ⟨i0, hi0⟩ : ∃ j, i = j + 1 := ⟨i - 1, by omega⟩
      have hj : (i : Int) - 1 = (i0 : Int) := by omega
      have hi1 : i - 1 = i0 := by omega
      simp only [hi1] at hgi hgi'
      (try conv=>whnf)<;>repeat'((first|exact sNo|refine sT ?_|refine sF ?_|((first|refine sD ?_ ?_|refine sE ?_ ?_|refine sN ?_ ?_|refine sG ?_ ?_)<;>intro ht<;>(first|(cases ht;done)|skip))|refine wr ?_|refine ix ?_|refine ati ?_|refine row ?_|refine app ?_|refine dr ?_|refine VBs.own ?_|fail)<;>(try conv=>whnf))
      all_goals first
        | (refine congrArg AV.bool (rightC_no hin (hgi'.2 ?_)).symm; omega)
        | (have hok : goodS c i = true := hgi.2 (by omega)
           exact VRd.mk rfl ⟨c.length - (i + 1), by omega, i + 1, rfl, rfl, by omega, rfl, fun j hj => by rcases Nat.lt_succ_iff_lt_or_eq.1 hj with h | rfl; exact hg j h; exact hok⟩)
  · obtain rfl : i = c.length := by omega
    have hr : risesL c = true := risesL_true hg
    clear hg
    (try conv=>whnf)<;>repeat'((first|exact sNo|refine sT ?_|refine sF ?_|((first|refine sD ?_ ?_|refine sE ?_ ?_|refine sN ?_ ?_|refine sG ?_ ?_)<;>intro ht<;>(first|(cases ht;done)|skip))|refine wr ?_|refine ix ?_|refine ati ?_|refine row ?_|refine app ?_|refine dr ?_|refine VBs.own ?_|fail)<;>(try conv=>whnf))
    refine VLp.mk ⟨[], [], [43], fun k vs h => ∃ j : Nat, vs = [i64 j] ∧ h = [] ∧ j ≤ 4 ∧ k = 4 - j ∧ ∀ d : Nat, d < j → rightL (part c d) = true, 4, ?_⟩
    conv => whnf
    refine ⟨⟨0, rfl, rfl, by omega, by omega, by omega⟩, ?_⟩
    rintro k vs h ⟨j, rfl, rfl, hj, rfl, hg⟩
    by_cases hj4 : j < 4
    · have hpl := part_len c (j : Int)
      have r1 := rpart_a c hn (j : Int)
      have r2 := rright_a_s (part c (j : Int)) (by omega)
      cases hb : rightL (part c (j : Int))
      · rw [hb] at r2
        (try conv=>whnf)<;>repeat'((first|exact sNo|refine sT ?_|refine sF ?_|((first|refine sD ?_ ?_|refine sE ?_ ?_|refine sN ?_ ?_|refine sG ?_ ?_)<;>intro ht<;>(first|(cases ht;done)|skip))|refine wr ?_|refine ix ?_|refine ati ?_|refine row ?_|refine app ?_|refine dr ?_|refine VBs.own ?_|refine cf r1 ?_|refine cg r1 ?_|refine cz r1 ?_|refine cf r2 ?_|refine cg r2 ?_|refine cz r2 ?_|fail)<;>(try conv=>whnf))
        exact congrArg AV.bool (rightC_no2 j hj4 hb).symm
      · rw [hb] at r2
        (try conv=>whnf)<;>repeat'((first|exact sNo|refine sT ?_|refine sF ?_|((first|refine sD ?_ ?_|refine sE ?_ ?_|refine sN ?_ ?_|refine sG ?_ ?_)<;>intro ht<;>(first|(cases ht;done)|skip))|refine wr ?_|refine ix ?_|refine ati ?_|refine row ?_|refine app ?_|refine dr ?_|refine VBs.own ?_|refine cf r1 ?_|refine cg r1 ?_|refine cz r1 ?_|refine cf r2 ?_|refine cg r2 ?_|refine cz r2 ?_|fail)<;>(try conv=>whnf))
        exact VRd.mk rfl ⟨4 - (j + 1), by omega, j + 1, rfl, rfl, by omega, rfl, fun d hd => by rcases Nat.lt_succ_iff_lt_or_eq.1 hd with h | rfl; exact hg d h; exact hb⟩
    · (try conv=>whnf)<;>repeat'((first|exact sNo|refine sT ?_|refine sF ?_|((first|refine sD ?_ ?_|refine sE ?_ ?_|refine sN ?_ ?_|refine sG ?_ ?_)<;>intro ht<;>(first|(cases ht;done)|skip))|refine wr ?_|refine ix ?_|refine ati ?_|refine row ?_|refine app ?_|refine dr ?_|refine VBs.own ?_|fail)<;>(try conv=>whnf))
      have g0 := hg 0 (by omega)
      have g1 := hg 1 (by omega)
      have g2 := hg 2 (by omega)
      have g3 := hg 3 (by omega)
      refine congrArg AV.bool ?_
      unfold rightC
      simp at g0 g1 g2 g3
      simp [hr, g0, g1, g2, g3]
def upto (p : Int → List (Int × Int)) : Nat → List Spn
  | 0 => []
  | j + 1 => upto p j ++ (p j).map (spn j)
theorem upto4 (p : Int → List (Int × Int)) : upto p 4 = whole p := by
  simp only [upto, whole, List.nil_append, List.append_assoc]
  rfl
theorem upto_len {p : Int → List (Int × Int)} {M : Nat} : ∀ {j : Nat}, (∀ d : Nat, d < j → (p d).length ≤ M) → (upto p j).length ≤ j * M
  | 0, _ => by simp [upto]
  | j + 1, h => by
    have h1 := upto_len (j := j) fun d hd => h d (by omega)
    have h2 := h j (by omega)
    simp only [upto, List.length_append, List.length_map, Nat.succ_mul]
    omega
end Go.Proofs.YtlghgdgpbnlpmaaGreat
/- What is proved: what Union, Meet, Minus of package context, and By of chapter 07's reference, answer. Conditions: none. -/
namespace Go.Proofs.YtlghgdgpbnlpmaaGreat
open Go.RowKit
set_option linter.unusedVariables false
set_option linter.unusedSimpArgs false
set_option maxRecDepth 100000
set_option maxHeartbeats 16000000
theorem rbyC_a (f : List (Int × Int) → List (Int × Int) → List (Int × Int)) (how : Int) (a b : List Spn) (ha : a.length ≤ 1000000) (hb : b.length ≤ 1000000) (hf : ∀ d : Nat, d < 4 → AFnP Tryz.prog 99 [lstE runE (part a d), lstE runE (part b d), i64 how] (lstE runE (f (part a d) (part b d)))) (hM : ∀ d : Nat, d < 4 → (f (part a d) (part b d)).length ≤ 100000) :
    AFnP Tryz.prog 68 [lstE spE a, lstE spE b, i64 how] (lstE spE (byC f a b)) := by
  refine afnp_in ty_ok Tryz.call68 Tryz.func68 rfl rfl (by decide +kernel) ?_
  have hup : ∀ j : Nat, j ≤ 4 → (upto (fun d => f (part a d) (part b d)) j).length ≤ 400000 := fun j hj => by
    have := upto_len (p := fun d => f (part a d) (part b d)) (M := 100000) (j := j) fun d hd => hM d (by omega)
    omega
  have hw : byC f a b = upto (fun d => f (part a d) (part b d)) 4 := (upto4 _).symm
  rw [hw]
  generalize hP : (fun d => f (part a d) (part b d)) = P at *
  (try conv=>whnf)<;>repeat'((first|exact sNo|refine sT ?_|refine sF ?_|((first|refine sD ?_ ?_|refine sE ?_ ?_|refine sN ?_ ?_|refine sG ?_ ?_)<;>intro ht<;>(first|(cases ht;done)|skip))|refine wr ?_|refine ix ?_|refine ati ?_|refine row ?_|refine app ?_|refine dr ?_|refine VBs.own ?_|fail)<;>(try conv=>whnf))
  refine VLp.mk ⟨[.slot 7 128 3], [], [7, 9], fun k vs h => ∃ j : Nat, vs = [.own 0 (upto P j).length, i64 j] ∧ h = [.row 0 128 3 ((upto P j).map spE)] ∧ j ≤ 4 ∧ k = 4 - j, 4, ?_⟩
  conv => whnf
  refine ⟨⟨0, rfl, rfl, by omega, by omega⟩, ?_⟩
  rintro k vs h ⟨j, rfl, rfl, hj, rfl⟩
  by_cases hj4 : j < 4
  · have h1 := hup j hj
    have r1 := rpart_a a ha (j : Int)
    have r2 := rpart_a b hb (j : Int)
    have r3 := hf j hj4
    have hl := hM j hj4
    have hPj : f (part a (j : Int)) (part b (j : Int)) = P j := by rw [← hP]
    rw [hPj] at r3 hl
    have r4 := spans_a (j : Int) (P j) (by omega)
    have hl2 : ((P j).map (spn j)).length ≤ 100000 := by rw [List.length_map]; exact hl
    have e : upto P (j + 1) = upto P j ++ (P j).map (spn j) := rfl
    generalize upto P j = U at *
    generalize (P j).map (spn j) = V at *
    generalize P j = Pj at *
    generalize part a (j : Int) = pa at *
    generalize part b (j : Int) = pb at *
    clear hup hf hM hP hw
    (try conv=>whnf)<;>repeat'((first|exact sNo|refine sT ?_|refine sF ?_|((first|refine sD ?_ ?_|refine sE ?_ ?_|refine sN ?_ ?_|refine sG ?_ ?_)<;>intro ht<;>(first|(cases ht;done)|skip))|refine wr ?_|refine ix ?_|refine ati ?_|refine row ?_|refine app ?_|refine dr ?_|refine VBs.own ?_|refine cf r1 ?_|refine cg r1 ?_|refine cz r1 ?_|refine cf r2 ?_|refine cg r2 ?_|refine cz r2 ?_|refine cf r3 ?_|refine cg r3 ?_|refine cz r3 ?_|refine cf r4 ?_|refine cg r4 ?_|refine cz r4 ?_|fail)<;>(try conv=>whnf))
    exact VRd.mk rfl ⟨4 - (j + 1), by omega, j + 1, by rw [e]; simp [i64], by rw [e]; simp, by omega, rfl⟩
  · obtain rfl : j = 4 := by omega
    (try conv=>whnf)<;>repeat'((first|exact sNo|refine sT ?_|refine sF ?_|((first|refine sD ?_ ?_|refine sE ?_ ?_|refine sN ?_ ?_|refine sG ?_ ?_)<;>intro ht<;>(first|(cases ht;done)|skip))|refine wr ?_|refine ix ?_|refine ati ?_|refine row ?_|refine app ?_|refine dr ?_|refine VBs.own ?_|fail)<;>(try conv=>whnf))
theorem byF_a {p0 p1 p2 p3 q0 q1 q2 q3 u0 u1 u2 u3 : List (Int × Int)} (fid : FuncId) (a b : List Spn)
    (ha : AFnP Tryz.prog 133 [lstE spE a] (.tup [.agg [lstE runE p0, lstE runE p1, lstE runE p2, lstE runE p3], .bool true]))
    (hb : AFnP Tryz.prog 133 [lstE spE b] (.tup [.agg [lstE runE q0, lstE runE q1, lstE runE q2, lstE runE q3], .bool true]))
    (h0 : AFnP Tryz.prog fid [lstE runE p0, lstE runE q0] (lstE runE u0)) (h1 : AFnP Tryz.prog fid [lstE runE p1, lstE runE q1] (lstE runE u1)) (h2 : AFnP Tryz.prog fid [lstE runE p2, lstE runE q2] (lstE runE u2)) (h3 : AFnP Tryz.prog fid [lstE runE p3, lstE runE q3] (lstE runE u3))
    {w : List Spn} (hw : AFnP Tryz.prog 132 [.agg [lstE runE u0, lstE runE u1, lstE runE u2, lstE runE u3]] (lstE spE w)) :
    AFnP Tryz.prog 134 [lstE spE a, lstE spE b, .fn fid []] (lstE spE w) := by
  refine afnp_in ty_ok Tryz.call134 Tryz.func134 rfl rfl (by decide +kernel) ?_
  (try conv=>whnf)<;>repeat'((first|exact sNo|refine sT ?_|refine sF ?_|((first|refine sD ?_ ?_|refine sE ?_ ?_|refine sN ?_ ?_|refine sG ?_ ?_)<;>intro ht<;>(first|(cases ht;done)|skip))|refine wr ?_|refine ix ?_|refine ati ?_|refine row ?_|refine app ?_|refine dr ?_|refine VBs.own ?_|refine cf ha ?_|refine cg ha ?_|refine cz ha ?_|refine cf hb ?_|refine cg hb ?_|refine cz hb ?_|fail)<;>(try conv=>whnf))
  refine VLp.mk ⟨[], [7, 9], [28], fun k vs h => (vs = [i64 0] ∧ h = [.blk 0 [lstE runE p0, lstE runE p1, lstE runE p2, lstE runE p3] 192, .blk 1 [lstE runE q0, lstE runE q1, lstE runE q2, lstE runE q3] 192] ∧ k = 4) ∨
    (vs = [i64 1] ∧ h = [.blk 0 [lstE runE u0, lstE runE p1, lstE runE p2, lstE runE p3] 192, .blk 1 [lstE runE q0, lstE runE q1, lstE runE q2, lstE runE q3] 192] ∧ k = 3) ∨
    (vs = [i64 2] ∧ h = [.blk 0 [lstE runE u0, lstE runE u1, lstE runE p2, lstE runE p3] 192, .blk 1 [lstE runE q0, lstE runE q1, lstE runE q2, lstE runE q3] 192] ∧ k = 2) ∨
    (vs = [i64 3] ∧ h = [.blk 0 [lstE runE u0, lstE runE u1, lstE runE u2, lstE runE p3] 192, .blk 1 [lstE runE q0, lstE runE q1, lstE runE q2, lstE runE q3] 192] ∧ k = 1) ∨
    (vs = [i64 4] ∧ h = [.blk 0 [lstE runE u0, lstE runE u1, lstE runE u2, lstE runE u3] 192, .blk 1 [lstE runE q0, lstE runE q1, lstE runE q2, lstE runE q3] 192] ∧ k = 0), 4, ?_⟩
  conv => whnf
  refine ⟨.inl ⟨rfl, rfl, rfl⟩, ?_⟩
  rintro k vs h (⟨rfl, rfl, rfl⟩ | ⟨rfl, rfl, rfl⟩ | ⟨rfl, rfl, rfl⟩ | ⟨rfl, rfl, rfl⟩ | ⟨rfl, rfl, rfl⟩)
  · (try conv=>whnf)<;>repeat'((first|(refine drx [8,9] [] [] ?_;(try conv=>whnf);(fail_if_success (show False)))|exact sNo|refine sT ?_|refine sF ?_|((first|refine sD ?_ ?_|refine sE ?_ ?_|refine sN ?_ ?_|refine sG ?_ ?_)<;>intro ht<;>(first|(cases ht;done)|skip))|refine wr ?_|refine ix ?_|refine ati ?_|refine row ?_|refine app ?_|refine dr ?_|refine VBs.own ?_|refine cf h0 ?_|refine cg h0 ?_|refine cz h0 ?_|fail)<;>(try conv=>whnf))
    all_goals exact VRd.mk rfl ⟨3, by omega, .inr (.inl ⟨rfl, rfl, rfl⟩)⟩
  · (try conv=>whnf)<;>repeat'((first|(refine drx [8,9] [] [] ?_;(try conv=>whnf);(fail_if_success (show False)))|exact sNo|refine sT ?_|refine sF ?_|((first|refine sD ?_ ?_|refine sE ?_ ?_|refine sN ?_ ?_|refine sG ?_ ?_)<;>intro ht<;>(first|(cases ht;done)|skip))|refine wr ?_|refine ix ?_|refine ati ?_|refine row ?_|refine app ?_|refine dr ?_|refine VBs.own ?_|refine cf h1 ?_|refine cg h1 ?_|refine cz h1 ?_|fail)<;>(try conv=>whnf))
    all_goals exact VRd.mk rfl ⟨2, by omega, .inr (.inr (.inl ⟨rfl, rfl, rfl⟩))⟩
  · (try conv=>whnf)<;>repeat'((first|(refine drx [8,9] [] [] ?_;(try conv=>whnf);(fail_if_success (show False)))|exact sNo|refine sT ?_|refine sF ?_|((first|refine sD ?_ ?_|refine sE ?_ ?_|refine sN ?_ ?_|refine sG ?_ ?_)<;>intro ht<;>(first|(cases ht;done)|skip))|refine wr ?_|refine ix ?_|refine ati ?_|refine row ?_|refine app ?_|refine dr ?_|refine VBs.own ?_|refine cf h2 ?_|refine cg h2 ?_|refine cz h2 ?_|fail)<;>(try conv=>whnf))
    all_goals exact VRd.mk rfl ⟨1, by omega, .inr (.inr (.inr (.inl ⟨rfl, rfl, rfl⟩)))⟩
  · (try conv=>whnf)<;>repeat'((first|(refine drx [8,9] [] [] ?_;(try conv=>whnf);(fail_if_success (show False)))|exact sNo|refine sT ?_|refine sF ?_|((first|refine sD ?_ ?_|refine sE ?_ ?_|refine sN ?_ ?_|refine sG ?_ ?_)<;>intro ht<;>(first|(cases ht;done)|skip))|refine wr ?_|refine ix ?_|refine ati ?_|refine row ?_|refine app ?_|refine dr ?_|refine VBs.own ?_|refine cf h3 ?_|refine cg h3 ?_|refine cz h3 ?_|fail)<;>(try conv=>whnf))
    all_goals exact VRd.mk rfl ⟨0, by omega, .inr (.inr (.inr (.inr ⟨rfl, rfl, rfl⟩)))⟩
  · (try conv=>whnf)<;>repeat'((first|exact sNo|refine sT ?_|refine sF ?_|((first|refine sD ?_ ?_|refine sE ?_ ?_|refine sN ?_ ?_|refine sG ?_ ?_)<;>intro ht<;>(first|(cases ht;done)|skip))|refine wr ?_|refine ix ?_|refine ati ?_|refine row ?_|refine app ?_|refine dr ?_|refine VBs.own ?_|refine cf hw ?_|refine cg hw ?_|refine cz hw ?_|fail)<;>(try conv=>whnf))
section two
variable {a b : List Spn}
theorem part_le {c : List Spn} (h : RightC c) (d : Int) : (part c d).length ≤ c.length := part_len c d
theorem minusC_p (ha : RightC a) (hb : RightC b) (hal : a.length ≤ 40000) (hbl : b.length ≤ 40000) (hm : a.length * (b.length + 1) ≤ 250000) : AFnP Tryz.prog 111 [lstE spE a, lstE spE b] (lstE spE (byC minusL a b)) := by
  have hc : ∀ d : Int, 0 ≤ d → d < 4 → AFnP Tryz.prog 135 [lstE runE (part a d), lstE runE (part b d)] (lstE runE (minusL (part a d) (part b d))) := fun d h0 h4 => minus_p (rightL_part ha h0 h4) (rightL_part hb h0 h4) (Nat.le_trans (part_len a d) (by omega)) (Nat.le_trans (part_len b d) (by omega))
  have hl : ∀ d : Int, 0 ≤ d → d < 4 → (minusL (part a d) (part b d)).length ≤ 250000 := fun d h0 h4 => by
    have h1 := (minus_spec (ha.2 d h0 h4) (hb.2 d h0 h4)).2.2
    have h2 := part_len a d
    have h3 := part_len b d
    have h5 : (part a d).length * ((part b d).length + 1) ≤ a.length * (b.length + 1) := Nat.mul_le_mul h2 (by omega)
    omega
  have := byF_a 135 a b (apart_t (rightC_iff.2 ha) (by omega)) (apart_t (rightC_iff.2 hb) (by omega)) (hc 0 (by omega) (by omega)) (hc 1 (by omega) (by omega)) (hc 2 (by omega) (by omega)) (hc 3 (by omega) (by omega)) (whole_a (fun d => minusL (part a d) (part b d)) hl)
  refine afnp_in ty_ok Tryz.call111 Tryz.func111 rfl rfl (by decide +kernel) ?_
  unfold byC
  generalize whole (fun d => minusL (part a d) (part b d)) = w at *
  (try conv=>whnf)<;>repeat'((first|exact sNo|refine sT ?_|refine sF ?_|((first|refine sD ?_ ?_|refine sE ?_ ?_|refine sN ?_ ?_|refine sG ?_ ?_)<;>intro ht<;>(first|(cases ht;done)|skip))|refine wr ?_|refine ix ?_|refine ati ?_|refine row ?_|refine app ?_|refine dr ?_|refine VBs.own ?_|refine cf this ?_|refine cg this ?_|refine cz this ?_|fail)<;>(try conv=>whnf))
end two
end Go.Proofs.YtlghgdgpbnlpmaaGreat
/- What is proved: what Of of package context and of chapter 07's reference answer. Conditions: none. -/
namespace Go.Proofs.YtlghgdgpbnlpmaaGreat
open Go.RowKit
set_option linter.unusedVariables false
set_option linter.unusedSimpArgs false
set_option maxRecDepth 100000
set_option maxHeartbeats 16000000
def numE (id : Nat) (l : List Int) : AP := .row id 2 1 (l.map intE)
theorem ofC_p (l : List (Int × Int)) (hn : l.length ≤ 200000) (hok : l.all okDot = true) : AFnP Tryz.prog 108 [lstE dtE l] (.tup [lstE spE (ofC l), i64 0]) := by
  have hall : ∀ (i : Nat) (h : i < l.length), okDot l[i] = true := fun i h => List.all_eq_true.1 hok _ (List.getElem_mem h)
  refine afnp_in ty_ok Tryz.call108 Tryz.func108 rfl rfl (by decide +kernel) ?_
  (try conv=>whnf)<;>repeat'((first|exact sNo|refine sT ?_|refine sF ?_|((first|refine sD ?_ ?_|refine sE ?_ ?_|refine sN ?_ ?_|refine sG ?_ ?_)<;>intro ht<;>(first|(cases ht;done)|skip))|refine wr ?_|refine ix ?_|refine ati ?_|refine row ?_|refine app ?_|refine dr ?_|refine VBs.own ?_|fail)<;>(try conv=>whnf))
  refine VLp.mk ⟨[.cell 0 0 2 1, .cell 0 1 2 1, .cell 0 2 2 1, .cell 0 3 2 1], [], [4, 12], fun k vs h => ∃ i : Nat, vs = [.op 0 0, i64 i] ∧ h = [.blk 0 [.own 1 (nums (l.take i) 0).length, .own 2 (nums (l.take i) 1).length, .own 3 (nums (l.take i) 2).length, .own 4 (nums (l.take i) 3).length] 188, numE 1 (nums (l.take i) 0), numE 2 (nums (l.take i) 1), numE 3 (nums (l.take i) 2), numE 4 (nums (l.take i) 3)] ∧ i ≤ l.length ∧ k = l.length - i, l.length, ?_⟩
  conv => whnf
  refine ⟨⟨0, rfl, rfl, by omega, by omega⟩, ?_⟩
  rintro k vs h ⟨i, rfl, rfl, hi, rfl⟩
  have l0 := nums_take_len l i 0
  have l1 := nums_take_len l i 1
  have l2 := nums_take_len l i 2
  have l3 := nums_take_len l i 3
  by_cases hin : i < l.length
  · have hk := hall i hin
    have d1 := dright_p l[i] hk
    obtain ⟨⟨k1, k2⟩, -⟩ := okDot_iff.1 hk
    have e0 := nums_take hin 0
    have e1 := nums_take hin 1
    have e2 := nums_take hin 2
    have e3 := nums_take hin 3
    generalize nums (l.take i) 0 = p0 at *
    generalize nums (l.take i) 1 = p1 at *
    generalize nums (l.take i) 2 = p2 at *
    generalize nums (l.take i) 3 = p3 at *
    have hcase : l[i].1 = ((0 : Nat) : Int) ∨ l[i].1 = ((1 : Nat) : Int) ∨ l[i].1 = ((2 : Nat) : Int) ∨ l[i].1 = ((3 : Nat) : Int) := by omega
    rcases hcase with hd | hd | hd | hd
    all_goals
      rw [hd] at e0 e1 e2 e3
      simp at e0 e1 e2 e3
      (try conv=>whnf)<;>repeat'((first|(refine drx [10] [1] [5] ?_;(try conv=>whnf);(fail_if_success (show False)))|exact sNo|refine sT ?_|refine sF ?_|((first|refine sD ?_ ?_|refine sE ?_ ?_|refine sN ?_ ?_|refine sG ?_ ?_)<;>intro ht<;>(first|(cases ht;done)|skip))|refine wr ?_|refine ix ?_|refine ati ?_|refine row ?_|refine app ?_|refine dr ?_|refine VBs.own ?_|refine cp d1 ?_|refine cf d1 ?_|refine cg d1 ?_|refine cz d1 ?_|fail)<;>(try conv=>whnf))
      exact VRd.mk rfl ⟨l.length - (i + 1), by omega, i + 1, rfl, by rw [e0, e1, e2, e3]; simp [numE, intE], by omega, rfl⟩
  · obtain rfl : i = l.length := by omega
    rw [List.take_length] at l0 l1 l2 l3 ⊢
    have hw : ofC l = (ofL (nums l 0)).map (spn 0) ++ ((ofL (nums l 1)).map (spn 1) ++ ((ofL (nums l 2)).map (spn 2) ++ (ofL (nums l 3)).map (spn 3))) := rfl
    rw [hw]
    have m0 := ofL_len (l := nums l 0)
    have m1 := ofL_len (l := nums l 1)
    have m2 := ofL_len (l := nums l 2)
    have m3 := ofL_len (l := nums l 3)
    have o0 := of_p (nums_ok hok 0) (by omega)
    have o1 := of_p (nums_ok hok 1) (by omega)
    have o2 := of_p (nums_ok hok 2) (by omega)
    have o3 := of_p (nums_ok hok 3) (by omega)
    have w := whole4_a (ofL (nums l 0)) (ofL (nums l 1)) (ofL (nums l 2)) (ofL (nums l 3)) (by omega) (by omega) (by omega) (by omega)
    clear hw hall hok
    generalize ofL (nums l 0) = u0 at *
    generalize ofL (nums l 1) = u1 at *
    generalize ofL (nums l 2) = u2 at *
    generalize ofL (nums l 3) = u3 at *
    generalize nums l 0 = p0 at *
    generalize nums l 1 = p1 at *
    generalize nums l 2 = p2 at *
    generalize nums l 3 = p3 at *
    (try conv=>whnf)<;>repeat'((first|exact sNo|refine sT ?_|refine sF ?_|((first|refine sD ?_ ?_|refine sE ?_ ?_|refine sN ?_ ?_|refine sG ?_ ?_)<;>intro ht<;>(first|(cases ht;done)|skip))|refine wr ?_|refine ix ?_|refine ati ?_|refine row ?_|refine app ?_|refine dr ?_|refine VBs.own ?_|fail)<;>(try conv=>whnf))
    refine VLp.mk ⟨[.frz [1, 2, 3, 4]], [7], [32], fun k vs h => (vs = [i64 0] ∧ h = [.blk 0 [.nils, .nils, .nils, .nils] 192] ∧ k = 4) ∨ (vs = [i64 1] ∧ h = [.blk 0 [lstE runE u0, .nils, .nils, .nils] 192] ∧ k = 3) ∨ (vs = [i64 2] ∧ h = [.blk 0 [lstE runE u0, lstE runE u1, .nils, .nils] 192] ∧ k = 2) ∨ (vs = [i64 3] ∧ h = [.blk 0 [lstE runE u0, lstE runE u1, lstE runE u2, .nils] 192] ∧ k = 1) ∨ (vs = [i64 4] ∧ h = [.blk 0 [lstE runE u0, lstE runE u1, lstE runE u2, lstE runE u3] 192] ∧ k = 0), 4, ?_⟩
    conv => whnf
    refine ⟨.inl ⟨rfl, rfl, rfl⟩, ?_⟩
    rintro k vs h (⟨rfl, rfl, rfl⟩ | ⟨rfl, rfl, rfl⟩ | ⟨rfl, rfl, rfl⟩ | ⟨rfl, rfl, rfl⟩ | ⟨rfl, rfl, rfl⟩)
    · (try conv=>whnf)<;>repeat'((first|exact sNo|refine sT ?_|refine sF ?_|((first|refine sD ?_ ?_|refine sE ?_ ?_|refine sN ?_ ?_|refine sG ?_ ?_)<;>intro ht<;>(first|(cases ht;done)|skip))|refine wr ?_|refine ix ?_|refine ati ?_|refine row ?_|refine app ?_|refine dr ?_|refine VBs.own ?_|refine cf o0 ?_|refine cg o0 ?_|refine cz o0 ?_|fail)<;>(try conv=>whnf))
      all_goals exact VRd.mk rfl ⟨3, by omega, .inr (.inl ⟨rfl, rfl, rfl⟩)⟩
    · (try conv=>whnf)<;>repeat'((first|exact sNo|refine sT ?_|refine sF ?_|((first|refine sD ?_ ?_|refine sE ?_ ?_|refine sN ?_ ?_|refine sG ?_ ?_)<;>intro ht<;>(first|(cases ht;done)|skip))|refine wr ?_|refine ix ?_|refine ati ?_|refine row ?_|refine app ?_|refine dr ?_|refine VBs.own ?_|refine cf o1 ?_|refine cg o1 ?_|refine cz o1 ?_|fail)<;>(try conv=>whnf))
      all_goals exact VRd.mk rfl ⟨2, by omega, .inr (.inr (.inl ⟨rfl, rfl, rfl⟩))⟩
    · (try conv=>whnf)<;>repeat'((first|exact sNo|refine sT ?_|refine sF ?_|((first|refine sD ?_ ?_|refine sE ?_ ?_|refine sN ?_ ?_|refine sG ?_ ?_)<;>intro ht<;>(first|(cases ht;done)|skip))|refine wr ?_|refine ix ?_|refine ati ?_|refine row ?_|refine app ?_|refine dr ?_|refine VBs.own ?_|refine cf o2 ?_|refine cg o2 ?_|refine cz o2 ?_|fail)<;>(try conv=>whnf))
      all_goals exact VRd.mk rfl ⟨1, by omega, .inr (.inr (.inr (.inl ⟨rfl, rfl, rfl⟩)))⟩
    · (try conv=>whnf)<;>repeat'((first|exact sNo|refine sT ?_|refine sF ?_|((first|refine sD ?_ ?_|refine sE ?_ ?_|refine sN ?_ ?_|refine sG ?_ ?_)<;>intro ht<;>(first|(cases ht;done)|skip))|refine wr ?_|refine ix ?_|refine ati ?_|refine row ?_|refine app ?_|refine dr ?_|refine VBs.own ?_|refine cf o3 ?_|refine cg o3 ?_|refine cz o3 ?_|fail)<;>(try conv=>whnf))
      all_goals exact VRd.mk rfl ⟨0, by omega, .inr (.inr (.inr (.inr ⟨rfl, rfl, rfl⟩)))⟩
    · (try conv=>whnf)<;>repeat'((first|exact sNo|refine sT ?_|refine sF ?_|((first|refine sD ?_ ?_|refine sE ?_ ?_|refine sN ?_ ?_|refine sG ?_ ?_)<;>intro ht<;>(first|(cases ht;done)|skip))|refine wr ?_|refine ix ?_|refine ati ?_|refine row ?_|refine app ?_|refine dr ?_|refine VBs.own ?_|refine cf w ?_|refine cg w ?_|refine cz w ?_|fail)<;>(try conv=>whnf))
theorem rofC_a (l : List (Int × Int)) (hn : l.length ≤ 200000) (hok : l.all okDot = true) : AFnP Tryz.prog 102 [lstE dtE l] (lstE spE (ofC l)) := by
  refine afnp_in ty_ok Tryz.call102 Tryz.func102 rfl rfl (by decide +kernel) ?_
  have hM : ∀ d : Nat, d < 4 → (ofL (nums l d)).length ≤ 200000 := fun d _ => by
    have h1 := ofL_len (l := nums l d)
    have h2 := nums_len l d
    omega
  have hup : ∀ j : Nat, j ≤ 4 → (upto (fun d => ofL (nums l d)) j).length ≤ 800000 := fun j hj => by
    have := upto_len (p := fun d => ofL (nums l d)) (M := 200000) (j := j) fun d hd => hM d (by omega)
    omega
  have hw : ofC l = upto (fun d => ofL (nums l d)) 4 := (upto4 _).symm
  rw [hw]
  generalize hP : (fun d => ofL (nums l d)) = P at *
  (try conv=>whnf)<;>repeat'((first|exact sNo|refine sT ?_|refine sF ?_|((first|refine sD ?_ ?_|refine sE ?_ ?_|refine sN ?_ ?_|refine sG ?_ ?_)<;>intro ht<;>(first|(cases ht;done)|skip))|refine wr ?_|refine ix ?_|refine ati ?_|refine row ?_|refine app ?_|refine dr ?_|refine VBs.own ?_|fail)<;>(try conv=>whnf))
  refine VLp.mk ⟨[.slot 3 128 3], [], [3, 7], fun k vs h => ∃ j : Nat, vs = [.own 0 (upto P j).length, i64 j] ∧ h = [.row 0 128 3 ((upto P j).map spE)] ∧ j ≤ 4 ∧ k = 4 - j, 4, ?_⟩
  conv => whnf
  refine ⟨⟨0, rfl, rfl, by omega, by omega⟩, ?_⟩
  rintro k vs h ⟨j, rfl, rfl, hj, rfl⟩
  by_cases hj4 : j < 4
  · have h1 := hup j hj
    have hl := hM j hj4
    have hPj : ofL (nums l (j : Int)) = P j := by rw [← hP]
    have r3 := rof_p (nums_ok hok (j : Int)) (Nat.le_trans (nums_len l j) (by omega))
    have hnl := nums_len l (j : Int)
    rw [hPj] at r3 hl
    have r4 := spans_a (j : Int) (P j) (by omega)
    have hl2 : ((P j).map (spn j)).length ≤ 200000 := by rw [List.length_map]; exact hl
    have e : upto P (j + 1) = upto P j ++ (P j).map (spn j) := rfl
    generalize upto P j = U at *
    generalize (P j).map (spn j) = V at *
    generalize P j = Pj at *
    clear hup hM hP hw
    (try conv=>whnf)<;>repeat'((first|exact sNo|refine sT ?_|refine sF ?_|((first|refine sD ?_ ?_|refine sE ?_ ?_|refine sN ?_ ?_|refine sG ?_ ?_)<;>intro ht<;>(first|(cases ht;done)|skip))|refine wr ?_|refine ix ?_|refine ati ?_|refine row ?_|refine app ?_|refine dr ?_|refine VBs.own ?_|fail)<;>(try conv=>whnf))
    refine VLp.mk ⟨[.slot 5 2 1], [3], [5, 12], fun k vs h => ∃ i : Nat, vs = [.own 1 (nums (l.take i) j).length, i64 i] ∧ h = [.row 0 128 3 (U.map spE), numE 1 (nums (l.take i) j)] ∧ i ≤ l.length ∧ k = l.length - i, l.length, ?_⟩
    conv => whnf
    refine ⟨⟨0, rfl, rfl, by omega, by omega⟩, ?_⟩
    rintro k vs h ⟨i, rfl, rfl, hi, rfl⟩
    by_cases hin : i < l.length
    · have en := nums_take hin (j : Int)
      have hnt := nums_take_len l i (j : Int)
      by_cases hd : l[i].1 = (j : Int)
      · rw [if_pos hd] at en
        generalize nums (l.take i) (j : Int) = N at *
        (try conv=>whnf)<;>repeat'((first|exact sNo|refine sT ?_|refine sF ?_|((first|refine sD ?_ ?_|refine sE ?_ ?_|refine sN ?_ ?_|refine sG ?_ ?_)<;>intro ht<;>(first|(cases ht;done)|skip))|refine wr ?_|refine ix ?_|refine ati ?_|refine row ?_|refine app ?_|refine dr ?_|refine VBs.own ?_|fail)<;>(try conv=>whnf))
        exact VRd.mk rfl ⟨l.length - (i + 1), by omega, i + 1, by rw [en]; simp [i64], by rw [en]; simp [numE, intE], by omega, rfl⟩
      · rw [if_neg hd, List.append_nil] at en
        generalize nums (l.take i) (j : Int) = N at *
        (try conv=>whnf)<;>repeat'((first|exact sNo|refine sT ?_|refine sF ?_|((first|refine sD ?_ ?_|refine sE ?_ ?_|refine sN ?_ ?_|refine sG ?_ ?_)<;>intro ht<;>(first|(cases ht;done)|skip))|refine wr ?_|refine ix ?_|refine ati ?_|refine row ?_|refine app ?_|refine dr ?_|refine VBs.own ?_|fail)<;>(try conv=>whnf))
        exact VRd.mk rfl ⟨l.length - (i + 1), by omega, i + 1, by rw [en]; rfl, by rw [en]; rfl, by omega, rfl⟩
    · obtain rfl : i = l.length := by omega
      rw [List.take_length]
      generalize nums l (j : Int) = N at *
      (try conv=>whnf)<;>repeat'((first|exact sNo|refine sT ?_|refine sF ?_|((first|refine sD ?_ ?_|refine sE ?_ ?_|refine sN ?_ ?_|refine sG ?_ ?_)<;>intro ht<;>(first|(cases ht;done)|skip))|refine wr ?_|refine ix ?_|refine ati ?_|refine row ?_|refine app ?_|refine dr ?_|refine VBs.own ?_|refine cf r3 ?_|refine cg r3 ?_|refine cz r3 ?_|refine cf r4 ?_|refine cg r4 ?_|refine cz r4 ?_|fail)<;>(try conv=>whnf))
      exact VRd.mk rfl ⟨4 - (j + 1), by omega, j + 1, by rw [e]; simp [i64], by rw [e]; simp, by omega, rfl⟩
  · obtain rfl : j = 4 := by omega
    (try conv=>whnf)<;>repeat'((first|exact sNo|refine sT ?_|refine sF ?_|((first|refine sD ?_ ?_|refine sE ?_ ?_|refine sN ?_ ?_|refine sG ?_ ?_)<;>intro ht<;>(first|(cases ht;done)|skip))|refine wr ?_|refine ix ?_|refine ati ?_|refine row ?_|refine app ?_|refine dr ?_|refine VBs.own ?_|fail)<;>(try conv=>whnf))
end Go.Proofs.YtlghgdgpbnlpmaaGreat
