/- What is proved: what the reference's buffer answers. Conditions: none. -/
import Derived.Test.YtlghgdgpbnlpmaaGreatMHb
import Derived.Test.YtlghgdgpbnlpmaaGreatHg
import Derived.Test.YtlghgdgpbnlpmaaGreatVs
import Derived.Test.YtlghgdgpbnlpmaaGreatGj
namespace Go.Proofs.YtlghgdgpbnlpmaaGreat
open Go.RowKit
set_option linter.unusedVariables false
set_option linter.unusedSimpArgs false
set_option maxRecDepth 100000
set_option maxHeartbeats 100000000
attribute [local irreducible] AFnP AFn AFnR
theorem stepS_len2 (s : SS) (b : Bun) : (stepS s b).2.length ≤ s.2.length + 1 := by
  unfold stepS
  split
  · simp
  · omega
theorem passS_len2 : ∀ (L : List Bun) (s : SS), (passS L s).2.length ≤ s.2.length + L.length
  | [], s => by simp [passS]
  | b :: L, s => by
    have h1 : (passS (b :: L) s).2.length ≤ (stepS s b).2.length + L.length := passS_len2 L (stepS s b)
    have h2 := stepS_len2 s b
    simp only [List.length_cons]
    omega
theorem iterS_len (m : List (Int × Bun)) (s : SS) (h : s.2 = []) : ∀ j : Nat, (iterS (m.map (·.2)) j s).2.length ≤ j * m.length
  | 0 => by rw [iter_zero, h]; simp
  | j + 1 => by
    have h1 := passS_len2 (m.map (·.2)) (iterS (m.map (·.2)) j s)
    have h2 := iterS_len m s h j
    rw [List.length_map] at h1
    rw [iter_succ, Nat.succ_mul]
    omega
def zbufE : List AV := [i64 0, i64 0, .lst 0 [], i64 0, i64 0, i64 0, i64 0, i64 0, i64 0, i64 0, i64 0, i64 0, i64 0, i64 0, i64 0, i64 0, i64 0, i64 0, i64 0, i64 0]
theorem rnew_t {s c : Int} (h : newOk s c = true) : AFnP Tryz.prog 44 [i64 s, i64 c] (.tup [.agg (bufE (newBuf s c)), .bool true]) := by
  have h := of_decide_eq_true h
  refine afp ty_ok Tryz.call44 Tryz.func44 ?_
  (try conv=>whnf)<;>repeat'((first|exact sNo|refine sT ?_|refine sF ?_|((first|refine sD ?_ ?_|refine sE ?_ ?_|refine sN ?_ ?_|refine sG ?_ ?_)<;>intro ht<;>(first|(cases ht;done)|skip))|refine wr ?_|refine ix ?_|refine ati ?_|refine row ?_|refine app ?_|refine dr ?_|refine VBs.own ?_|fail)<;>(try conv=>whnf))
  all_goals rfl
theorem rnew_f {s c : Int} (h : newOk s c = false) : AFnP Tryz.prog 44 [i64 s, i64 c] (.tup [.agg zbufE, .bool false]) := by
  have h := of_decide_eq_false h
  refine afp ty_ok Tryz.call44 Tryz.func44 ?_
  (try conv=>whnf)<;>repeat'((first|exact sNo|refine sT ?_|refine sF ?_|((first|refine sD ?_ ?_|refine sE ?_ ?_|refine sN ?_ ?_|refine sG ?_ ?_)<;>intro ht<;>(first|(cases ht;done)|skip))|refine wr ?_|refine ix ?_|refine ati ?_|refine row ?_|refine app ?_|refine dr ?_|refine VBs.own ?_|fail)<;>(try conv=>whnf))
  all_goals rfl
theorem rother_a (b : Buf) (n : Int) : AFnP Tryz.prog 80 [.agg (bufE b), i64 n] (.bool (peerB b n)) := by
  refine afp ty_ok Tryz.call80 Tryz.func80 ?_
  unfold peerB bufE lstE
  generalize b.m.map prB = R at *
  generalize b.m.length = nn at *
  (try conv=>whnf)<;>repeat'((first|exact sNo|refine sT ?_|refine sF ?_|((first|refine sD ?_ ?_|refine sE ?_ ?_|refine sN ?_ ?_|refine sG ?_ ?_)<;>intro ht<;>(first|(cases ht;done)|skip))|refine wr ?_|refine ix ?_|refine ati ?_|refine row ?_|refine app ?_|refine dr ?_|refine VBs.own ?_|fail)<;>(try conv=>whnf))
  all_goals (refine congrArg AV.bool ?_; first | (rw [decide_eq_true (by omega)]; done) | (rw [decide_eq_false (by omega)]; done))
theorem rother_p {b : Buf} {n : Int} {t : Bool} (h : peerB b n = t) : AFnP Tryz.prog 80 [.agg (bufE b), i64 n] (.bool t) := by subst h; exact rother_a b n
theorem rof24_a (b : Buf) (hc : b.cn ≤ 4) (n : Int) : AFnP Tryz.prog 77 [.agg (bufE b), i64 n] (vecE (ofB b n)) := by
  refine afp ty_ok Tryz.call77 Tryz.func77 ?_
  have r1 := rother_a b n
  unfold vecE ofB
  unfold bufE at *
  unfold lstE at *
  generalize b.m.map prB = R at *
  generalize b.m.length = nn at *
  cases h : peerB b n
  · rw [h] at r1
    (try conv=>whnf)<;>repeat'((first|exact sNo|refine sT ?_|refine sF ?_|((first|refine sD ?_ ?_|refine sE ?_ ?_|refine sN ?_ ?_|refine sG ?_ ?_)<;>intro ht<;>(first|(cases ht;done)|skip))|refine wr ?_|refine ix ?_|refine ati ?_|refine row ?_|refine app ?_|refine dr ?_|refine VBs.own ?_|refine cf r1 ?_|refine cg r1 ?_|refine cz r1 ?_|fail)<;>(try conv=>whnf))
    all_goals rfl
  · rw [h] at r1
    have hp := peer_four hc h
    simp only [if_true]
    rcases hp with ⟨hn', hn⟩ | ⟨hn', hn⟩ | ⟨hn', hn⟩ | ⟨hn', hn⟩
    all_goals
      (try conv=>whnf)<;>repeat'((first|exact sNo|refine sT ?_|refine sF ?_|((first|refine sD ?_ ?_|refine sE ?_ ?_|refine sN ?_ ?_|refine sG ?_ ?_)<;>intro ht<;>(first|(cases ht;done)|skip))|refine wr ?_|refine ix ?_|refine ati ?_|refine row ?_|refine app ?_|refine dr ?_|refine VBs.own ?_|refine cf r1 ?_|refine cg r1 ?_|refine cz r1 ?_|fail)<;>(try conv=>whnf))
      all_goals (rw [hn'])
theorem rheard_a (b : Buf) (n : Int) (v : Int → Int) (hc : b.cn ≤ 4) : AFnP Tryz.prog 78 [.agg (bufE b), i64 n, vecE v] (.tup [.agg (bufE (hearB b n v).1), i64 (hearB b n v).2]) := by
  refine afp ty_ok Tryz.call78 Tryz.func78 ?_
  unfold hearB
  cases hp : peerB b n
  · have r1 := rother_p hp
    rw [Bool.false_and, if_neg (by decide)]
    unfold bufE at *
    unfold lstE at *
    generalize b.m.map prB = R at *
    generalize b.m.length = nn at *
    (try conv=>whnf)<;>repeat'((first|exact sNo|refine sT ?_|refine sF ?_|((first|refine sD ?_ ?_|refine sE ?_ ?_|refine sN ?_ ?_|refine sG ?_ ?_)<;>intro ht<;>(first|(cases ht;done)|skip))|refine wr ?_|refine ix ?_|refine ati ?_|refine row ?_|refine app ?_|refine dr ?_|refine VBs.own ?_|refine cf r1 ?_|refine cg r1 ?_|refine cz r1 ?_|fail)<;>(try conv=>whnf))
    all_goals rfl
  have r1 := rother_p hp
  cases hv : mayV v
  · have r2 := rmay_p hv
    rw [Bool.and_false, if_neg (by decide)]
    unfold bufE at *
    unfold lstE at *
    generalize b.m.map prB = R at *
    generalize b.m.length = nn at *
    (try conv=>whnf)<;>repeat'((first|exact sNo|refine sT ?_|refine sF ?_|((first|refine sD ?_ ?_|refine sE ?_ ?_|refine sN ?_ ?_|refine sG ?_ ?_)<;>intro ht<;>(first|(cases ht;done)|skip))|refine wr ?_|refine ix ?_|refine ati ?_|refine row ?_|refine app ?_|refine dr ?_|refine VBs.own ?_|refine cf r1 ?_|refine cg r1 ?_|refine cz r1 ?_|refine cf r2 ?_|refine cg r2 ?_|refine cz r2 ?_|fail)<;>(try conv=>whnf))
    all_goals rfl
  have r2 := rmay_p hv
  rw [Bool.and_self, if_pos rfl]
  have hp4 := peer_four hc hp
  dsimp only
  have hE : ∀ x : Int, n = x → bufE (heardB b n v) = bufE (heardB b x v) := fun x e => by rw [e]
  rcases hp4 with ⟨hn', hn⟩ | ⟨hn', hn⟩ | ⟨hn', hn⟩ | ⟨hn', hn⟩
  · rw [hE _ hn', heard_0]
    clear hE
    have r3 := rraised_a (b.has 0) v
    unfold bufE at *
    unfold lstE at *
    generalize b.m.map prB = R at *
    generalize b.m.length = nn at *
    (try conv=>whnf)<;>repeat'((first|exact sNo|refine sT ?_|refine sF ?_|((first|refine sD ?_ ?_|refine sE ?_ ?_|refine sN ?_ ?_|refine sG ?_ ?_)<;>intro ht<;>(first|(cases ht;done)|skip))|refine wr ?_|refine ix ?_|refine ati ?_|refine row ?_|refine app ?_|refine dr ?_|refine VBs.own ?_|refine cf r1 ?_|refine cg r1 ?_|refine cz r1 ?_|refine cf r2 ?_|refine cg r2 ?_|refine cz r2 ?_|refine cf r3 ?_|refine cg r3 ?_|refine cz r3 ?_|fail)<;>(try conv=>whnf))
    all_goals rfl
  · rw [hE _ hn', heard_1]
    clear hE
    have r3 := rraised_a (b.has 1) v
    unfold bufE at *
    unfold lstE at *
    generalize b.m.map prB = R at *
    generalize b.m.length = nn at *
    (try conv=>whnf)<;>repeat'((first|exact sNo|refine sT ?_|refine sF ?_|((first|refine sD ?_ ?_|refine sE ?_ ?_|refine sN ?_ ?_|refine sG ?_ ?_)<;>intro ht<;>(first|(cases ht;done)|skip))|refine wr ?_|refine ix ?_|refine ati ?_|refine row ?_|refine app ?_|refine dr ?_|refine VBs.own ?_|refine cf r1 ?_|refine cg r1 ?_|refine cz r1 ?_|refine cf r2 ?_|refine cg r2 ?_|refine cz r2 ?_|refine cf r3 ?_|refine cg r3 ?_|refine cz r3 ?_|fail)<;>(try conv=>whnf))
    all_goals rfl
  · rw [hE _ hn', heard_2]
    clear hE
    have r3 := rraised_a (b.has 2) v
    unfold bufE at *
    unfold lstE at *
    generalize b.m.map prB = R at *
    generalize b.m.length = nn at *
    (try conv=>whnf)<;>repeat'((first|exact sNo|refine sT ?_|refine sF ?_|((first|refine sD ?_ ?_|refine sE ?_ ?_|refine sN ?_ ?_|refine sG ?_ ?_)<;>intro ht<;>(first|(cases ht;done)|skip))|refine wr ?_|refine ix ?_|refine ati ?_|refine row ?_|refine app ?_|refine dr ?_|refine VBs.own ?_|refine cf r1 ?_|refine cg r1 ?_|refine cz r1 ?_|refine cf r2 ?_|refine cg r2 ?_|refine cz r2 ?_|refine cf r3 ?_|refine cg r3 ?_|refine cz r3 ?_|fail)<;>(try conv=>whnf))
    all_goals rfl
  · rw [hE _ hn', heard_3]
    clear hE
    have r3 := rraised_a (b.has 3) v
    unfold bufE at *
    unfold lstE at *
    generalize b.m.map prB = R at *
    generalize b.m.length = nn at *
    (try conv=>whnf)<;>repeat'((first|exact sNo|refine sT ?_|refine sF ?_|((first|refine sD ?_ ?_|refine sE ?_ ?_|refine sN ?_ ?_|refine sG ?_ ?_)<;>intro ht<;>(first|(cases ht;done)|skip))|refine wr ?_|refine ix ?_|refine ati ?_|refine row ?_|refine app ?_|refine dr ?_|refine VBs.own ?_|refine cf r1 ?_|refine cg r1 ?_|refine cz r1 ?_|refine cf r2 ?_|refine cg r2 ?_|refine cz r2 ?_|refine cf r3 ?_|refine cg r3 ?_|refine cz r3 ?_|fail)<;>(try conv=>whnf))
    all_goals rfl
/-! Add -/
theorem radd24_1 (b : Buf) (x : Bun) (hx : SmB x) (hlen : b.m.length ≤ 64) (hlast : 0 ≤ b.last ∧ b.last < 1000000) : ∃ R, AFn Tryz.prog 48 [.agg (bufE b), .agg (bunE x)] [] R ∧ ∀ r h', R r h' → tr (fzS h') r = .tup [.agg (bufE (addBuf b x).1), i64 (addBuf b x).2.1, i64 (addBuf b x).2.2] := by
  unfold addBuf
  cases hR : rightB x
  · have r1 := rright_p hx hR
    rw [if_neg (by decide)]
    dsimp only
    unfold bufE lstE
    generalize b.m.map prB = R at *
    generalize b.m.length = nn at *
    refine ⟨fun r h' => r = .tup [.agg [i64 b.self, i64 b.cn, .lst nn R, i64 b.last, i64 (b.has 0 0), i64 (b.has 0 1), i64 (b.has 0 2), i64 (b.has 0 3), i64 (b.has 1 0), i64 (b.has 1 1), i64 (b.has 1 2), i64 (b.has 1 3), i64 (b.has 2 0), i64 (b.has 2 1), i64 (b.has 2 2), i64 (b.has 2 3), i64 (b.has 3 0), i64 (b.has 3 1), i64 (b.has 3 2), i64 (b.has 3 3)], i64 0, i64 1] ∧ h' = [], ?_, by rintro r h' ⟨rfl, rfl⟩; rfl⟩
    refine afn_in ty_ok Tryz.call48 Tryz.func48 rfl rfl (by decide +kernel) ?_
    (try conv=>whnf)<;>repeat'((first|exact sNo|refine sT ?_|refine sF ?_|((first|refine sD ?_ ?_|refine sE ?_ ?_|refine sN ?_ ?_|refine sG ?_ ?_)<;>intro ht<;>(first|(cases ht;done)|skip))|refine wr ?_|refine ix ?_|refine ati ?_|refine row ?_|refine app ?_|refine dr ?_|refine VAnd.mk ?_ ?_|exact VJe.mk rfl ⟨rfl,rfl⟩|refine .inl (slM ?_)|refine .inl (slO ?_)|refine slM ?_|refine slO ?_|refine slN ?_|refine slS ?_|refine swB (swM fun C hC=>?_)|refine sj ?_|refine .inl (sv ?_)|refine sv ?_|refine cl ?_|refine s3 ?_|refine az ?_|refine rm ?_|refine VBs.own ?_|refine cf r1 ?_|refine cg r1 ?_|refine cz r1 ?_|fail)<;>(try conv=>whnf))
    all_goals exact VRt.mk rfl ⟨rfl, rfl⟩
  · have r1 := rright_p hx hR
    rw [if_pos rfl]
    dsimp only
    unfold addM
    by_cases h64 : 64 ≤ b.m.length
    · rw [if_pos h64]
      have hl64 : b.m.length = 64 := by omega
      have e1 : (b.m ++ [(b.last + 1, x)]).drop 1 = b.m.drop 1 ++ [(b.last + 1, x)] := by rw [List.drop_append_of_le_length (by omega)]
      have e2 : ((b.m.map prB ++ [i64 (b.last + 1) :: bunE x]).drop 1).take 64 = ((b.m ++ [(b.last + 1, x)]).drop 1).map prB := by
        rw [List.take_of_length_le (by simp; omega), List.map_drop, List.map_append]
        rfl
      have e3 : ((b.m ++ [(b.last + 1, x)]).drop 1).length = 64 := by simp; omega
      unfold bufE lstE
      dsimp only
      rw [e3, ← e2]
      clear e1 e2 e3
      have hRl : (b.m.map prB).length = 64 := by simp [hl64]
      have hok : RowsOk 11 (b.m.map prB) := rok_map (fun _ => ⟨rfl, rfl⟩)
      generalize b.m.map prB = R at *
      refine ⟨fun r h' => ∃ C, 65 ≤ C ∧ r = .tup [.agg [i64 b.self, i64 b.cn, .sub 0 11 1 64 C false, i64 (b.last + 1), i64 (b.has 0 0), i64 (b.has 0 1), i64 (b.has 0 2), i64 (b.has 0 3), i64 (b.has 1 0), i64 (b.has 1 1), i64 (b.has 1 2), i64 (b.has 1 3), i64 (b.has 2 0), i64 (b.has 2 1), i64 (b.has 2 2), i64 (b.has 2 3), i64 (b.has 3 0), i64 (b.has 3 1), i64 (b.has 3 2), i64 (b.has 3 3)], i64 (b.last + 1), i64 0] ∧ h' = [.row 0 139 11 (R ++ [i64 (b.last + 1) :: bunE x])], ?_, ?_⟩
      · refine afn_in ty_ok Tryz.call48 Tryz.func48 rfl rfl (by decide +kernel) ?_
        (try conv=>whnf)<;>repeat'((first|(refine drx [0,1,2000] [] [] ?_;(try conv=>whnf);(fail_if_success (show False)))|exact sNo|refine sT ?_|refine sF ?_|((first|refine sD ?_ ?_|refine sE ?_ ?_|refine sN ?_ ?_|refine sG ?_ ?_)<;>intro ht<;>(first|(cases ht;done)|skip))|refine wr ?_|refine ix ?_|refine ati ?_|refine row ?_|refine app ?_|refine dr ?_|refine VAnd.mk ?_ ?_|exact VJe.mk rfl ⟨rfl,rfl⟩|refine .inl (slM ?_)|refine .inl (slO ?_)|refine slM ?_|refine slO ?_|refine slN ?_|refine slS ?_|refine swB (swM fun C hC=>?_)|refine sj ?_|refine .inl (sv ?_)|refine sv ?_|refine cl ?_|refine s3 ?_|refine az ?_|refine rm ?_|refine VBs.own ?_|refine cf r1 ?_|refine cg r1 ?_|refine cz r1 ?_|refine app ?_ hok|fail)<;>(try conv=>whnf))
        all_goals exact VRt.mk rfl ⟨C, by omega, by rw [show 0 + b.m.length + 1 - 1 = 64 by omega] <;> rfl, rfl⟩
      · rintro r h' ⟨C, hC, rfl, rfl⟩
        have hq : Nat.ble (1 + 64) (R ++ [i64 (b.last + 1) :: bunE x]).length = true := by rw [List.length_append, hRl] <;> rfl
        have e := fzS_sub (T := 139) (k := 11) (lo := 1) (n := 64) (C := C) (w := false) hq
        simp only [tr, trL]
        rw [e]
    · rw [if_neg h64]
      have e2 : (b.m ++ [(b.last + 1, x)]).map prB = b.m.map prB ++ [i64 (b.last + 1) :: bunE x] := by rw [List.map_append] <;> rfl
      have e3 : (b.m ++ [(b.last + 1, x)]).length = b.m.length + 1 := by simp
      unfold bufE lstE
      dsimp only
      rw [e2, e3]
      clear e2 e3
      have hok : RowsOk 11 (b.m.map prB) := rok_map (fun _ => ⟨rfl, rfl⟩)
      generalize b.m.map prB = R at *
      generalize b.m.length = nn at *
      refine ⟨fun r h' => r = .tup [.agg [i64 b.self, i64 b.cn, .own 0 (nn + 1), i64 (b.last + 1), i64 (b.has 0 0), i64 (b.has 0 1), i64 (b.has 0 2), i64 (b.has 0 3), i64 (b.has 1 0), i64 (b.has 1 1), i64 (b.has 1 2), i64 (b.has 1 3), i64 (b.has 2 0), i64 (b.has 2 1), i64 (b.has 2 2), i64 (b.has 2 3), i64 (b.has 3 0), i64 (b.has 3 1), i64 (b.has 3 2), i64 (b.has 3 3)], i64 (b.last + 1), i64 0] ∧ h' = [.row 0 139 11 (R ++ [i64 (b.last + 1) :: bunE x])], ?_, by rintro r h' ⟨rfl, rfl⟩; rfl⟩
      refine afn_in ty_ok Tryz.call48 Tryz.func48 rfl rfl (by decide +kernel) ?_
      (try conv=>whnf)<;>repeat'((first|(refine drx [0,1,2000] [] [] ?_;(try conv=>whnf);(fail_if_success (show False)))|exact sNo|refine sT ?_|refine sF ?_|((first|refine sD ?_ ?_|refine sE ?_ ?_|refine sN ?_ ?_|refine sG ?_ ?_)<;>intro ht<;>(first|(cases ht;done)|skip))|refine wr ?_|refine ix ?_|refine ati ?_|refine row ?_|refine app ?_|refine dr ?_|refine VAnd.mk ?_ ?_|exact VJe.mk rfl ⟨rfl,rfl⟩|refine .inl (slM ?_)|refine .inl (slO ?_)|refine slM ?_|refine slO ?_|refine slN ?_|refine slS ?_|refine swB (swM fun C hC=>?_)|refine sj ?_|refine .inl (sv ?_)|refine sv ?_|refine cl ?_|refine s3 ?_|refine az ?_|refine rm ?_|refine VBs.own ?_|refine cf r1 ?_|refine cg r1 ?_|refine cz r1 ?_|refine app ?_ hok|fail)<;>(try conv=>whnf))
      all_goals exact VRt.mk rfl ⟨by rw [Nat.zero_add] <;> rfl, rfl⟩
theorem radd24_a (b : Buf) (x : Bun) (hx : SmB x) (hlen : b.m.length ≤ 64) (hlast : 0 ≤ b.last ∧ b.last < 1000000) : AFnP Tryz.prog 48 [.agg (bufE b), .agg (bunE x)] (.tup [.agg (bufE (addBuf b x).1), i64 (addBuf b x).2.1, i64 (addBuf b x).2.2]) := by
  obtain ⟨R, h1, h2⟩ := radd24_1 b x hx hlen hlast
  exact h1.frzP h2
/-! For -/
theorem rfor_no (b : Buf) (n : Int) (v : Int → Int) (q : Int) (h : forOk b n v q = false) : AFnP Tryz.prog 49 [.agg (bufE b), i64 n, vecE v, i64 q] (.tup [.lst 0 [], .bool false, i64 1]) := by
  refine afp ty_ok Tryz.call49 Tryz.func49 ?_
  unfold forOk at h
  cases hp : peerB b n
  · have r1 := rother_p hp
    unfold bufE at *
    unfold lstE at *
    generalize b.m.map prB = R at *
    generalize b.m.length = nn at *
    (try conv=>whnf)<;>repeat'((first|exact sNo|refine sT ?_|refine sF ?_|((first|refine sD ?_ ?_|refine sE ?_ ?_|refine sN ?_ ?_|refine sG ?_ ?_)<;>intro ht<;>(first|(cases ht;done)|skip))|refine wr ?_|refine ix ?_|refine ati ?_|refine row ?_|refine app ?_|refine dr ?_|refine VBs.own ?_|refine cf r1 ?_|refine cg r1 ?_|refine cz r1 ?_|fail)<;>(try conv=>whnf))
    all_goals rfl
  · have r1 := rother_p hp
    cases hv : mayV v
    · have r2 := rmay_p hv
      unfold bufE at *
      unfold lstE at *
      generalize b.m.map prB = R at *
      generalize b.m.length = nn at *
      (try conv=>whnf)<;>repeat'((first|exact sNo|refine sT ?_|refine sF ?_|((first|refine sD ?_ ?_|refine sE ?_ ?_|refine sN ?_ ?_|refine sG ?_ ?_)<;>intro ht<;>(first|(cases ht;done)|skip))|refine wr ?_|refine ix ?_|refine ati ?_|refine row ?_|refine app ?_|refine dr ?_|refine VBs.own ?_|refine cf r1 ?_|refine cg r1 ?_|refine cz r1 ?_|refine cf r2 ?_|refine cg r2 ?_|refine cz r2 ?_|fail)<;>(try conv=>whnf))
      all_goals rfl
    · have r2 := rmay_p hv
      rw [hp, hv] at h
      simp only [Bool.true_and, decide_eq_false_iff_not] at h
      unfold bufE at *
      unfold lstE at *
      generalize b.m.map prB = R at *
      generalize b.m.length = nn at *
      by_cases h1 : 1 ≤ q
      · (try conv=>whnf)<;>repeat'((first|exact sNo|refine sT ?_|refine sF ?_|((first|refine sD ?_ ?_|refine sE ?_ ?_|refine sN ?_ ?_|refine sG ?_ ?_)<;>intro ht<;>(first|(cases ht;done)|skip))|refine wr ?_|refine ix ?_|refine ati ?_|refine row ?_|refine app ?_|refine dr ?_|refine VBs.own ?_|refine cf r1 ?_|refine cg r1 ?_|refine cz r1 ?_|refine cf r2 ?_|refine cg r2 ?_|refine cz r2 ?_|fail)<;>(try conv=>whnf))
        all_goals rfl
      · (try conv=>whnf)<;>repeat'((first|exact sNo|refine sT ?_|refine sF ?_|((first|refine sD ?_ ?_|refine sE ?_ ?_|refine sN ?_ ?_|refine sG ?_ ?_)<;>intro ht<;>(first|(cases ht;done)|skip))|refine wr ?_|refine ix ?_|refine ati ?_|refine row ?_|refine app ?_|refine dr ?_|refine VBs.own ?_|refine cf r1 ?_|refine cg r1 ?_|refine cz r1 ?_|refine cf r2 ?_|refine cg r2 ?_|refine cz r2 ?_|fail)<;>(try conv=>whnf))
        all_goals rfl
theorem rfor_a (b : Buf) (n : Int) (v : Int → Int) (q : Int) (hB : BI b) (hc : b.cn ≤ 4) (h : forOk b n v q = true) : AFnP Tryz.prog 49 [.agg (bufE b), i64 n, vecE v, i64 q] (.tup [lstE bunE ((forS b n).2.take q.toNat), .bool (atMost v (forS b n).1), i64 0]) := by
  refine afp ty_ok Tryz.call49 Tryz.func49 ?_
  unfold forOk at h
  rw [Bool.and_eq_true, Bool.and_eq_true, decide_eq_true_eq] at h
  obtain ⟨⟨hp, hv⟩, hq1, hq2⟩ := h
  obtain ⟨q', hq'⟩ : ∃ q' : Nat, q = (q' : Int) := ⟨q.toNat, (Int.toNat_of_nonneg (by omega)).symm⟩
  subst hq'
  rw [Int.toNat_natCast]
  have r1 := rother_p hp
  have r2 := rmay_p hv
  have hlen := hB.len
  obtain ⟨F, hF⟩ : ∃ F : SS, F = forS b n := ⟨_, rfl⟩
  rw [← hF]
  obtain ⟨S, hS⟩ : ∃ S : Nat → SS, ∀ j, S j = iterS (b.m.map (·.2)) j (b.has n, []) := ⟨_, fun _ => rfl⟩
  have hSm : ∀ i (hi : i < b.m.length), SmB b.m[i].2 := fun i hi => (hB.ok _ (List.getElem_mem hi)).2
  have hRi : ∀ i (hi : i < b.m.length), rightB b.m[i].2 = true := fun i hi => (hB.ok _ (List.getElem_mem hi)).1
  have hend : F = S b.m.length := by rw [hF, hS] <;> rfl
  have hrow := fun i (h : i < b.m.length) => m_row (m := b.m) h
  have hS0 : S 0 = (b.has n, []) := by rw [hS, iter_zero]
  have hSs : ∀ j, S (j + 1) = passS (b.m.map (·.2)) (S j) := fun j => by rw [hS, hS, iter_succ]
  have hSl : ∀ j, (S j).2.length ≤ j * b.m.length := fun j => by rw [hS]; exact iterS_len _ _ rfl _
  have hLl : (b.m.map (·.2)).length = b.m.length := List.length_map ..
  have hLg : ∀ i (hi : i < b.m.length), (b.m.map (·.2))[i]'(by rw [hLl]; exact hi) = b.m[i].2 := fun i hi => List.getElem_map ..
  have hp4 := peer_four hc hp
  clear hF hS hB
  unfold bufE at *
  unfold lstE at *
  generalize hm : b.m = m at *
  clear hm
  generalize m.map prB = R at *
  generalize hL : m.map (·.2) = L at *
  obtain ⟨nn, hnn⟩ : ∃ nn, m.length = nn := ⟨_, rfl⟩
  rw [hnn] at r1 hlen hend hSl ⊢
  subst hend
  rcases hp4 with ⟨hn', hn⟩ | ⟨hn', hn⟩ | ⟨hn', hn⟩ | ⟨hn', hn⟩
  all_goals
    rw [hn'] at hS0
    have e0 := congrArg Prod.fst hS0
    dsimp only at e0
    have e1 := congrArg Prod.snd hS0
    dsimp only at e1
    (try conv=>whnf)<;>repeat'((first|exact sNo|refine sT ?_|refine sF ?_|((first|refine sD ?_ ?_|refine sE ?_ ?_|refine sN ?_ ?_|refine sG ?_ ?_)<;>intro ht<;>(first|(cases ht;done)|skip))|refine wr ?_|refine ix ?_|refine ati ?_|refine row ?_|refine app ?_|refine dr ?_|refine VBs.own ?_|refine cf r1 ?_|refine cg r1 ?_|refine cz r1 ?_|refine cf r2 ?_|refine cg r2 ?_|refine cz r2 ?_|fail)<;>(try conv=>whnf))
    refine VLp.mk ⟨[.slot 12 43 10], [4, 6, 11], [12, 38], fun k vs h => ∃ j : Nat, vs = [.own 3 (S j).2.length, i64 j] ∧ h = [.blk 0 (i64 b.self :: i64 b.cn :: .lst nn R :: i64 b.last :: hcE b) 92, .blk 1 [i64 (v 0), i64 (v 1), i64 (v 2), i64 (v 3)] 33, .blk 2 [i64 ((S j).1 0), i64 ((S j).1 1), i64 ((S j).1 2), i64 ((S j).1 3)] 33, .row 3 43 10 ((S j).2.map bunE)] ∧ j ≤ nn ∧ k = nn - j, nn, ?_⟩
    conv => whnf
    refine ⟨⟨0, by rw [e1] <;> rfl, by rw [e0, e1] <;> rfl, by omega, by omega⟩, ?_⟩
    rintro k vs h ⟨j, rfl, rfl, hj, rfl⟩
    by_cases hjn : j < nn
    · have hSj := hSs j
      obtain ⟨P, hP⟩ : ∃ P : Nat → SS, ∀ i, P i = passS (L.take i) (S j) := ⟨_, fun _ => rfl⟩
      have hP0 : P 0 = S j := by rw [hP, List.take_zero] <;> rfl
      have hPs : ∀ i (hi : i < m.length), P (i + 1) = stepS (P i) m[i].2 := fun i hi => by
        rw [hP, hP, passS_take (by omega), hLg i (by omega)]
      have hPn : P nn = S (j + 1) := by rw [hSj, hP, List.take_of_length_le (by omega)]
      have hPl : ∀ i, (P i).2.length ≤ (S j).2.length + i := fun i => by
        rw [hP]
        have := passS_len2 (L.take i) (S j)
        rw [List.length_take] at this
        omega
      have hSlj := hSl j
      have hjj : j * nn ≤ 64 * 64 := Nat.mul_le_mul (by omega) hlen
      (try conv=>whnf)<;>repeat'((first|exact sNo|refine sT ?_|refine sF ?_|((first|refine sD ?_ ?_|refine sE ?_ ?_|refine sN ?_ ?_|refine sG ?_ ?_)<;>intro ht<;>(first|(cases ht;done)|skip))|refine wr ?_|refine ix ?_|refine ati ?_|refine row ?_|refine app ?_|refine dr ?_|refine VBs.own ?_|fail)<;>(try conv=>whnf))
      refine VLp.mk ⟨[], [4, 6, 11], [12, 43], fun k vs h => ∃ i : Nat, vs = [.own 3 (P i).2.length, i64 i] ∧ h = [.blk 0 (i64 b.self :: i64 b.cn :: .lst nn R :: i64 b.last :: hcE b) 92, .blk 1 [i64 (v 0), i64 (v 1), i64 (v 2), i64 (v 3)] 33, .blk 2 [i64 ((P i).1 0), i64 ((P i).1 1), i64 ((P i).1 2), i64 ((P i).1 3)] 33, .row 3 43 10 ((P i).2.map bunE)] ∧ i ≤ nn ∧ k = nn - i, nn, ?_⟩
      conv => whnf
      refine ⟨⟨0, by rw [hP0] <;> rfl, by rw [hP0] <;> rfl, by omega, by omega⟩, ?_⟩
      rintro k vs h ⟨i, rfl, rfl, hi, rfl⟩
      by_cases hin : i < nn
      · have hri := hrow i (by omega)
        have hsi := hSm i (by omega)
        have hrr := hRi i (by omega)
        have hst := hPs i (by omega)
        have hl := hPl i
        have hd := (right_nums hrr).1.1
        generalize (m[i]'(by omega)).2 = x at *
        generalize (m[i]'(by omega)).1 = key at *
        cases hk : readyB x (P i).1
        · have q1 := rready_p hd ((ready_two hrr (P i).1).trans hk)
          rw [stepS_no hk] at hst
          (try conv=>whnf)<;>repeat'((first|(refine pr ?_;(try conv=>whnf);(fail_if_success (show False)))|exact sNo|refine sT ?_|refine sF ?_|((first|refine sD ?_ ?_|refine sE ?_ ?_|refine sN ?_ ?_|refine sG ?_ ?_)<;>intro ht<;>(first|(cases ht;done)|skip))|refine wr ?_|refine ix ?_|refine ati ?_|refine row ?_|refine app ?_|refine dr ?_|refine VBs.own ?_|refine cp q1 ?_|refine cf q1 ?_|refine cg q1 ?_|refine cz q1 ?_|fail)<;>(try conv=>whnf))
          all_goals exact VRd.mk rfl ⟨nn - (i + 1), by omega, i + 1, by rw [hst] <;> rfl, by rw [hst] <;> rfl, by omega, rfl⟩
        · have q1 := rready_p hd ((ready_two hrr (P i).1).trans hk)
          have q2 := rbehind_a x hd (P i).1
          rw [stepS_yes hk] at hst
          have f1 := congrArg Prod.fst hst
          have f2 := congrArg Prod.snd hst
          dsimp only at f1 f2
          have g1 : (P i).2.map bunE ++ [bunE x] = (P (i + 1)).2.map bunE := by rw [f2, List.map_append] <;> rfl
          have g2 : (P (i + 1)).2.length = (P i).2.length + 1 := by rw [f2]; simp
          (try conv=>whnf)<;>repeat'((first|(refine drx [1007] [] [] ?_;(try conv=>whnf);(fail_if_success (show False)))|(refine pr ?_;(try conv=>whnf);(fail_if_success (show False)))|exact sNo|refine sT ?_|refine sF ?_|((first|refine sD ?_ ?_|refine sE ?_ ?_|refine sN ?_ ?_|refine sG ?_ ?_)<;>intro ht<;>(first|(cases ht;done)|skip))|refine wr ?_|refine ix ?_|refine ati ?_|refine row ?_|refine app ?_|refine dr ?_|refine VBs.own ?_|refine cp q1 ?_|refine cf q1 ?_|refine cg q1 ?_|refine cz q1 ?_|refine cp q2 ?_|refine cf q2 ?_|refine cg q2 ?_|refine cz q2 ?_|fail)<;>(try conv=>whnf))
          all_goals exact VRd.mk rfl ⟨nn - (i + 1), by omega, i + 1, by rw [g2] <;> rfl, by rw [f1, ← g1] <;> rfl, by omega, rfl⟩
      · obtain rfl : i = nn := by omega
        (try conv=>whnf)<;>repeat'((first|exact sNo|refine sT ?_|refine sF ?_|((first|refine sD ?_ ?_|refine sE ?_ ?_|refine sN ?_ ?_|refine sG ?_ ?_)<;>intro ht<;>(first|(cases ht;done)|skip))|refine wr ?_|refine ix ?_|refine ati ?_|refine row ?_|refine app ?_|refine dr ?_|refine VBs.own ?_|fail)<;>(try conv=>whnf))
        all_goals exact VRd.mk rfl ⟨i - (j + 1), by omega, j + 1, by rw [hPn] <;> rfl, by rw [hPn] <;> rfl, by omega, rfl⟩
    · obtain rfl : j = nn := by omega
      have r4 := ratmost_a v (S j).1
      clear hSl hSs hS0 e0 e1
      generalize S j = s at *
      obtain ⟨s1, s2⟩ := s
      dsimp only at *
      generalize atMost v s1 = t at *
      by_cases hle : s2.length ≤ q'
      · rw [show s2.take q' = s2.take s2.length by rw [List.take_length, List.take_of_length_le hle]]
        cases t
        all_goals (try conv=>whnf)<;>repeat'((first|(refine drx [] [] [3] ?_;(try conv=>whnf);(fail_if_success (show False)))|exact sNo|refine sT ?_|refine sF ?_|((first|refine sD ?_ ?_|refine sE ?_ ?_|refine sN ?_ ?_|refine sG ?_ ?_)<;>intro ht<;>(first|(cases ht;done)|skip))|refine wr ?_|refine ix ?_|refine ati ?_|refine row ?_|refine app ?_|refine dr ?_|refine VBs.own ?_|refine cf r4 ?_|refine cg r4 ?_|refine cz r4 ?_|(refine slM (l := 0) (h := s2.length) ?_ (SlP.l0 rfl (by show (if _ then _ else _ : Int) = _;split<;>omega) (by omega) (by omega)))|(refine .inl (slM (l := 0) (h := s2.length) ?_ (SlP.l0 rfl (by show (if _ then _ else _ : Int) = _;split<;>omega) (by omega) (by omega))))|fail)<;>(try conv=>whnf))
        all_goals rfl
      · cases t
        all_goals (try conv=>whnf)<;>repeat'((first|(refine drx [] [] [3] ?_;(try conv=>whnf);(fail_if_success (show False)))|exact sNo|refine sT ?_|refine sF ?_|((first|refine sD ?_ ?_|refine sE ?_ ?_|refine sN ?_ ?_|refine sG ?_ ?_)<;>intro ht<;>(first|(cases ht;done)|skip))|refine wr ?_|refine ix ?_|refine ati ?_|refine row ?_|refine app ?_|refine dr ?_|refine VBs.own ?_|refine cf r4 ?_|refine cg r4 ?_|refine cz r4 ?_|(refine slM (l := 0) (h := q') ?_ (SlP.l0 rfl (by show (if _ then _ else _ : Int) = _;split<;>omega) (by omega) (by omega)))|(refine .inl (slM (l := 0) (h := q') ?_ (SlP.l0 rfl (by show (if _ then _ else _ : Int) = _;split<;>omega) (by omega) (by omega))))|fail)<;>(try conv=>whnf))
        all_goals rfl
/-! Collect -/
theorem rcol_a (b : Buf) (hB : BI b) (hc : 0 ≤ b.cn ∧ b.cn ≤ 4) : AFnP Tryz.prog 79 [.agg (bufE b)] (.tup [.agg (bufE (colB b)), i64 (colN b : Nat)]) := by
  refine afp ty_ok Tryz.call79 Tryz.func79 ?_
  have hlen := hB.len
  have hrow := fun i (h : i < b.m.length) => m_row (m := b.m) h
  have hRi : ∀ i (hi : i < b.m.length), rightB b.m[i].2 = true := fun i hi => (hB.ok _ (List.getElem_mem hi)).1
  obtain ⟨X, hX⟩ : ∃ X : Nat → List (Int × Bun), ∀ i, X i = stayM b (b.m.take i) := ⟨_, fun _ => rfl⟩
  have hX0 : X 0 = [] := by rw [hX] <;> rfl
  have hXe : X b.m.length = stayM b b.m := by rw [hX, List.take_length]
  have hXl : ∀ i, (X i).length ≤ i := fun i => by rw [hX]; have := stayM_len b (b.m.take i); rw [List.length_take] at this; omega
  have hgo : ∀ i (h : i < b.m.length), goesB b b.m[i].2 = true → X (i + 1) = X i := fun i h hg => by
    rw [hX, hX, ← take_snoc h, stayM_snoc, if_pos hg, List.append_nil]
  have hstay : ∀ i (h : i < b.m.length), goesB b b.m[i].2 = false → X (i + 1) = X i ++ [b.m[i]] := fun i h hg => by
    rw [hX, hX, ← take_snoc h, stayM_snoc, if_neg (by rw [hg]; decide)]
  have hstay2 : ∀ i (h : i < b.m.length), goesB b b.m[i].2 = false → (X i).map prB ++ [i64 b.m[i].1 :: bunE b.m[i].2] = (X (i + 1)).map prB ∧ (X (i + 1)).length = (X i).length + 1 := fun i h hg => by
    rw [hstay i h hg, List.map_append]
    exact ⟨rfl, by simp⟩
  have hre : bufE (colB b) = [i64 b.self, i64 b.cn, .lst (X b.m.length).length ((X b.m.length).map prB), i64 b.last, i64 (b.has 0 0), i64 (b.has 0 1), i64 (b.has 0 2), i64 (b.has 0 3), i64 (b.has 1 0), i64 (b.has 1 1), i64 (b.has 1 2), i64 (b.has 1 3), i64 (b.has 2 0), i64 (b.has 2 1), i64 (b.has 2 2), i64 (b.has 2 3), i64 (b.has 3 0), i64 (b.has 3 1), i64 (b.has 3 2), i64 (b.has 3 3)] := by rw [hXe] <;> rfl
  have hrn : colN b = b.m.length - (X b.m.length).length := by rw [hXe] <;> rfl
  rw [hre, hrn]
  unfold bufE lstE
  have hg0 : ∀ x, goesB b x = allW b x b.cn.toNat := fun _ => rfl
  clear hX hXe hre hrn hB hstay
  generalize hm : b.m = m at *
  clear hm
  generalize m.map prB = R at *
  obtain ⟨nn, hnn⟩ : ∃ nn, m.length = nn := ⟨_, rfl⟩
  rw [hnn] at hlen ⊢
  (try conv=>whnf)<;>repeat'((first|exact sNo|refine sT ?_|refine sF ?_|((first|refine sD ?_ ?_|refine sE ?_ ?_|refine sN ?_ ?_|refine sG ?_ ?_)<;>intro ht<;>(first|(cases ht;done)|skip))|refine wr ?_|refine ix ?_|refine ati ?_|refine row ?_|refine app ?_|refine dr ?_|refine VBs.own ?_|fail)<;>(try conv=>whnf))
  refine VLp.mk ⟨[.slot 4 139 11], [1, 2], [4, 13], fun k vs h => ∃ i : Nat, vs = [.own 2 (X i).length, i64 i] ∧ h = [.blk 0 (i64 b.self :: i64 b.cn :: .lst nn R :: i64 b.last :: hcE b) 92, .blk 1 [i64 0, i64 0, .nils, i64 0, i64 0, i64 0, i64 0, i64 0, i64 0, i64 0, i64 0, i64 0, i64 0, i64 0, i64 0, i64 0, i64 0, i64 0, i64 0, i64 0] 92, .row 2 139 11 ((X i).map prB)] ∧ i ≤ nn ∧ k = nn - i, nn, ?_⟩
  conv => whnf
  refine ⟨⟨0, by rw [hX0] <;> rfl, by rw [hX0] <;> rfl, by omega, by omega⟩, ?_⟩
  rintro k vs h ⟨i, rfl, rfl, hi, rfl⟩
  have hXi := hXl i
  by_cases hin : i < nn
  · have hr := hrow i (by omega)
    have hrr := hRi i (by omega)
    have hgo' := hgo i (by omega)
    have hst' := hstay2 i (by omega)
    have hgx := hg0 (m[i]'(by omega)).2
    have hd := (right_nums hrr).1.1
    have hkn := fun v => known_iff hrr (v := v)
    generalize (m[i]'(by omega)).2 = x at *
    generalize (m[i]'(by omega)).1 = key at *
    generalize hXX : X i = Xi at *
    (try conv=>whnf)<;>repeat'((first|exact sNo|refine sT ?_|refine sF ?_|((first|refine sD ?_ ?_|refine sE ?_ ?_|refine sN ?_ ?_|refine sG ?_ ?_)<;>intro ht<;>(first|(cases ht;done)|skip))|refine wr ?_|refine ix ?_|refine ati ?_|refine row ?_|refine app ?_|refine dr ?_|refine VBs.own ?_|fail)<;>(try conv=>whnf))
    refine VLp.mk ⟨[], [1, 2, 6], [4, 7, 24], fun k vs h => (vs = [.own 3 Xi.length, .bool (!(allW b x 0)), i64 0] ∧ h = [.blk 0 (i64 b.self :: i64 b.cn :: .lst nn R :: i64 b.last :: hcE b) 92, .blk 1 [i64 0, i64 0, .nils, i64 0, i64 0, i64 0, i64 0, i64 0, i64 0, i64 0, i64 0, i64 0, i64 0, i64 0, i64 0, i64 0, i64 0, i64 0, i64 0, i64 0] 92, .blk 2 (bunE x) 43, .row 3 139 11 (Xi.map prB)] ∧ 0 ≤ b.cn ∧ k = 4) ∨ (vs = [.own 3 Xi.length, .bool (!(allW b x 1)), i64 1] ∧ h = [.blk 0 (i64 b.self :: i64 b.cn :: .lst nn R :: i64 b.last :: hcE b) 92, .blk 1 [i64 0, i64 0, .nils, i64 0, i64 0, i64 0, i64 0, i64 0, i64 0, i64 0, i64 0, i64 0, i64 0, i64 0, i64 0, i64 0, i64 0, i64 0, i64 0, i64 0] 92, .blk 2 (bunE x) 43, .row 3 139 11 (Xi.map prB)] ∧ 1 ≤ b.cn ∧ k = 3) ∨ (vs = [.own 3 Xi.length, .bool (!(allW b x 2)), i64 2] ∧ h = [.blk 0 (i64 b.self :: i64 b.cn :: .lst nn R :: i64 b.last :: hcE b) 92, .blk 1 [i64 0, i64 0, .nils, i64 0, i64 0, i64 0, i64 0, i64 0, i64 0, i64 0, i64 0, i64 0, i64 0, i64 0, i64 0, i64 0, i64 0, i64 0, i64 0, i64 0] 92, .blk 2 (bunE x) 43, .row 3 139 11 (Xi.map prB)] ∧ 2 ≤ b.cn ∧ k = 2) ∨ (vs = [.own 3 Xi.length, .bool (!(allW b x 3)), i64 3] ∧ h = [.blk 0 (i64 b.self :: i64 b.cn :: .lst nn R :: i64 b.last :: hcE b) 92, .blk 1 [i64 0, i64 0, .nils, i64 0, i64 0, i64 0, i64 0, i64 0, i64 0, i64 0, i64 0, i64 0, i64 0, i64 0, i64 0, i64 0, i64 0, i64 0, i64 0, i64 0] 92, .blk 2 (bunE x) 43, .row 3 139 11 (Xi.map prB)] ∧ 3 ≤ b.cn ∧ k = 1) ∨ (vs = [.own 3 Xi.length, .bool (!(allW b x 4)), i64 4] ∧ h = [.blk 0 (i64 b.self :: i64 b.cn :: .lst nn R :: i64 b.last :: hcE b) 92, .blk 1 [i64 0, i64 0, .nils, i64 0, i64 0, i64 0, i64 0, i64 0, i64 0, i64 0, i64 0, i64 0, i64 0, i64 0, i64 0, i64 0, i64 0, i64 0, i64 0, i64 0] 92, .blk 2 (bunE x) 43, .row 3 139 11 (Xi.map prB)] ∧ 4 ≤ b.cn ∧ k = 0), 4, ?_⟩
    conv => whnf
    refine ⟨.inl ⟨rfl, rfl, by omega, rfl⟩, ?_⟩
    rintro k vs h (⟨rfl, rfl, hj, rfl⟩ | ⟨rfl, rfl, hj, rfl⟩ | ⟨rfl, rfl, hj, rfl⟩ | ⟨rfl, rfl, hj, rfl⟩ | ⟨rfl, rfl, hj, rfl⟩)
    · by_cases hjc : 0 < b.cn
      · have hs : allW b x 1 = (allW b x 0 && (decide (((0 : Nat) : Int) = b.self) || knownB x (b.has ((0 : Nat) : Int)))) := rfl
        have hkk := hkn (b.has ((0 : Nat) : Int))
        by_cases hse : 0 = b.self
        · rw [decide_eq_true (show (((0 : Nat) : Int) = b.self) from hse), Bool.true_or, Bool.and_true] at hs
          (try conv=>whnf)<;>repeat'((first|exact sNo|refine sT ?_|refine sF ?_|refine wr ?_|refine ix ?_|refine ati ?_|refine row ?_|refine dr ?_|fail)<;>(try conv=>whnf))
          all_goals exact VRd.mk rfl ⟨3, by omega, .inr (.inl (⟨by rw [hs] <;> rfl, rfl, by omega, rfl⟩))⟩
        · rw [decide_eq_false (show ¬ (((0 : Nat) : Int) = b.self) from hse), Bool.false_or] at hs
          cases hk : knownB x (b.has ((0 : Nat) : Int))
          · rw [hk, Bool.and_false] at hs
            have hle : ¬ x.la ≤ b.has ((0 : Nat) : Int) x.dc := fun h => by rw [hkk.2 h] at hk; cases hk
            rcases four_dn hd with ⟨hd', hdd⟩ | ⟨hd', hdd⟩ | ⟨hd', hdd⟩ | ⟨hd', hdd⟩
            all_goals
              rw [hd'] at hle
              replace hle : ¬ x.la ≤ b.has 0 _ := hle
              (try conv=>whnf)<;>repeat'((first|exact sNo|refine sT ?_|refine sF ?_|refine wr ?_|refine ix ?_|refine ati ?_|refine row ?_|refine dr ?_|fail)<;>(try conv=>whnf))
              all_goals exact VRd.mk rfl ⟨3, by omega, .inr (.inl (⟨by rw [hs] <;> rfl, rfl, by omega, rfl⟩))⟩
          · rw [hk, Bool.and_true] at hs
            have hle := hkk.1 hk
            rcases four_dn hd with ⟨hd', hdd⟩ | ⟨hd', hdd⟩ | ⟨hd', hdd⟩ | ⟨hd', hdd⟩
            all_goals
              rw [hd'] at hle
              replace hle : x.la ≤ b.has 0 _ := hle
              (try conv=>whnf)<;>repeat'((first|exact sNo|refine sT ?_|refine sF ?_|refine wr ?_|refine ix ?_|refine ati ?_|refine row ?_|refine dr ?_|fail)<;>(try conv=>whnf))
              all_goals exact VRd.mk rfl ⟨3, by omega, .inr (.inl (⟨by rw [hs] <;> rfl, rfl, by omega, rfl⟩))⟩
      · have ec : b.cn.toNat = 0 := by omega
        rw [ec] at hgx
        cases hA : allW b x 0
        · obtain ⟨g1, g2⟩ := hst' (hgx.trans hA)
          (try conv=>whnf)<;>repeat'((first|exact sNo|refine sT ?_|refine sF ?_|((first|refine sD ?_ ?_|refine sE ?_ ?_|refine sN ?_ ?_|refine sG ?_ ?_)<;>intro ht<;>(first|(cases ht;done)|skip))|refine wr ?_|refine ix ?_|refine ati ?_|refine row ?_|refine app ?_|refine dr ?_|refine VBs.own ?_|fail)<;>(try conv=>whnf))
          all_goals exact VRd.mk rfl ⟨nn - (i + 1), by omega, i + 1, by rw [g2] <;> rfl, by rw [← g1] <;> rfl, by omega, rfl⟩
        · have g1 := hgo' (hgx.trans hA)
          (try conv=>whnf)<;>repeat'((first|exact sNo|refine sT ?_|refine sF ?_|((first|refine sD ?_ ?_|refine sE ?_ ?_|refine sN ?_ ?_|refine sG ?_ ?_)<;>intro ht<;>(first|(cases ht;done)|skip))|refine wr ?_|refine ix ?_|refine ati ?_|refine row ?_|refine app ?_|refine dr ?_|refine VBs.own ?_|fail)<;>(try conv=>whnf))
          all_goals exact VRd.mk rfl ⟨nn - (i + 1), by omega, i + 1, by rw [g1] <;> rfl, by rw [g1] <;> rfl, by omega, rfl⟩
    · by_cases hjc : 1 < b.cn
      · have hs : allW b x 2 = (allW b x 1 && (decide (((1 : Nat) : Int) = b.self) || knownB x (b.has ((1 : Nat) : Int)))) := rfl
        have hkk := hkn (b.has ((1 : Nat) : Int))
        by_cases hse : 1 = b.self
        · rw [decide_eq_true (show (((1 : Nat) : Int) = b.self) from hse), Bool.true_or, Bool.and_true] at hs
          (try conv=>whnf)<;>repeat'((first|exact sNo|refine sT ?_|refine sF ?_|refine wr ?_|refine ix ?_|refine ati ?_|refine row ?_|refine dr ?_|fail)<;>(try conv=>whnf))
          all_goals exact VRd.mk rfl ⟨2, by omega, .inr (.inr (.inl (⟨by rw [hs] <;> rfl, rfl, by omega, rfl⟩)))⟩
        · rw [decide_eq_false (show ¬ (((1 : Nat) : Int) = b.self) from hse), Bool.false_or] at hs
          cases hk : knownB x (b.has ((1 : Nat) : Int))
          · rw [hk, Bool.and_false] at hs
            have hle : ¬ x.la ≤ b.has ((1 : Nat) : Int) x.dc := fun h => by rw [hkk.2 h] at hk; cases hk
            rcases four_dn hd with ⟨hd', hdd⟩ | ⟨hd', hdd⟩ | ⟨hd', hdd⟩ | ⟨hd', hdd⟩
            all_goals
              rw [hd'] at hle
              replace hle : ¬ x.la ≤ b.has 1 _ := hle
              (try conv=>whnf)<;>repeat'((first|exact sNo|refine sT ?_|refine sF ?_|refine wr ?_|refine ix ?_|refine ati ?_|refine row ?_|refine dr ?_|fail)<;>(try conv=>whnf))
              all_goals exact VRd.mk rfl ⟨2, by omega, .inr (.inr (.inl (⟨by rw [hs] <;> rfl, rfl, by omega, rfl⟩)))⟩
          · rw [hk, Bool.and_true] at hs
            have hle := hkk.1 hk
            rcases four_dn hd with ⟨hd', hdd⟩ | ⟨hd', hdd⟩ | ⟨hd', hdd⟩ | ⟨hd', hdd⟩
            all_goals
              rw [hd'] at hle
              replace hle : x.la ≤ b.has 1 _ := hle
              (try conv=>whnf)<;>repeat'((first|exact sNo|refine sT ?_|refine sF ?_|refine wr ?_|refine ix ?_|refine ati ?_|refine row ?_|refine dr ?_|fail)<;>(try conv=>whnf))
              all_goals exact VRd.mk rfl ⟨2, by omega, .inr (.inr (.inl (⟨by rw [hs] <;> rfl, rfl, by omega, rfl⟩)))⟩
      · have ec : b.cn.toNat = 1 := by omega
        rw [ec] at hgx
        cases hA : allW b x 1
        · obtain ⟨g1, g2⟩ := hst' (hgx.trans hA)
          (try conv=>whnf)<;>repeat'((first|exact sNo|refine sT ?_|refine sF ?_|((first|refine sD ?_ ?_|refine sE ?_ ?_|refine sN ?_ ?_|refine sG ?_ ?_)<;>intro ht<;>(first|(cases ht;done)|skip))|refine wr ?_|refine ix ?_|refine ati ?_|refine row ?_|refine app ?_|refine dr ?_|refine VBs.own ?_|fail)<;>(try conv=>whnf))
          all_goals exact VRd.mk rfl ⟨nn - (i + 1), by omega, i + 1, by rw [g2] <;> rfl, by rw [← g1] <;> rfl, by omega, rfl⟩
        · have g1 := hgo' (hgx.trans hA)
          (try conv=>whnf)<;>repeat'((first|exact sNo|refine sT ?_|refine sF ?_|((first|refine sD ?_ ?_|refine sE ?_ ?_|refine sN ?_ ?_|refine sG ?_ ?_)<;>intro ht<;>(first|(cases ht;done)|skip))|refine wr ?_|refine ix ?_|refine ati ?_|refine row ?_|refine app ?_|refine dr ?_|refine VBs.own ?_|fail)<;>(try conv=>whnf))
          all_goals exact VRd.mk rfl ⟨nn - (i + 1), by omega, i + 1, by rw [g1] <;> rfl, by rw [g1] <;> rfl, by omega, rfl⟩
    · by_cases hjc : 2 < b.cn
      · have hs : allW b x 3 = (allW b x 2 && (decide (((2 : Nat) : Int) = b.self) || knownB x (b.has ((2 : Nat) : Int)))) := rfl
        have hkk := hkn (b.has ((2 : Nat) : Int))
        by_cases hse : 2 = b.self
        · rw [decide_eq_true (show (((2 : Nat) : Int) = b.self) from hse), Bool.true_or, Bool.and_true] at hs
          (try conv=>whnf)<;>repeat'((first|exact sNo|refine sT ?_|refine sF ?_|refine wr ?_|refine ix ?_|refine ati ?_|refine row ?_|refine dr ?_|fail)<;>(try conv=>whnf))
          all_goals exact VRd.mk rfl ⟨1, by omega, .inr (.inr (.inr (.inl (⟨by rw [hs] <;> rfl, rfl, by omega, rfl⟩))))⟩
        · rw [decide_eq_false (show ¬ (((2 : Nat) : Int) = b.self) from hse), Bool.false_or] at hs
          cases hk : knownB x (b.has ((2 : Nat) : Int))
          · rw [hk, Bool.and_false] at hs
            have hle : ¬ x.la ≤ b.has ((2 : Nat) : Int) x.dc := fun h => by rw [hkk.2 h] at hk; cases hk
            rcases four_dn hd with ⟨hd', hdd⟩ | ⟨hd', hdd⟩ | ⟨hd', hdd⟩ | ⟨hd', hdd⟩
            all_goals
              rw [hd'] at hle
              replace hle : ¬ x.la ≤ b.has 2 _ := hle
              (try conv=>whnf)<;>repeat'((first|exact sNo|refine sT ?_|refine sF ?_|refine wr ?_|refine ix ?_|refine ati ?_|refine row ?_|refine dr ?_|fail)<;>(try conv=>whnf))
              all_goals exact VRd.mk rfl ⟨1, by omega, .inr (.inr (.inr (.inl (⟨by rw [hs] <;> rfl, rfl, by omega, rfl⟩))))⟩
          · rw [hk, Bool.and_true] at hs
            have hle := hkk.1 hk
            rcases four_dn hd with ⟨hd', hdd⟩ | ⟨hd', hdd⟩ | ⟨hd', hdd⟩ | ⟨hd', hdd⟩
            all_goals
              rw [hd'] at hle
              replace hle : x.la ≤ b.has 2 _ := hle
              (try conv=>whnf)<;>repeat'((first|exact sNo|refine sT ?_|refine sF ?_|refine wr ?_|refine ix ?_|refine ati ?_|refine row ?_|refine dr ?_|fail)<;>(try conv=>whnf))
              all_goals exact VRd.mk rfl ⟨1, by omega, .inr (.inr (.inr (.inl (⟨by rw [hs] <;> rfl, rfl, by omega, rfl⟩))))⟩
      · have ec : b.cn.toNat = 2 := by omega
        rw [ec] at hgx
        cases hA : allW b x 2
        · obtain ⟨g1, g2⟩ := hst' (hgx.trans hA)
          (try conv=>whnf)<;>repeat'((first|exact sNo|refine sT ?_|refine sF ?_|((first|refine sD ?_ ?_|refine sE ?_ ?_|refine sN ?_ ?_|refine sG ?_ ?_)<;>intro ht<;>(first|(cases ht;done)|skip))|refine wr ?_|refine ix ?_|refine ati ?_|refine row ?_|refine app ?_|refine dr ?_|refine VBs.own ?_|fail)<;>(try conv=>whnf))
          all_goals exact VRd.mk rfl ⟨nn - (i + 1), by omega, i + 1, by rw [g2] <;> rfl, by rw [← g1] <;> rfl, by omega, rfl⟩
        · have g1 := hgo' (hgx.trans hA)
          (try conv=>whnf)<;>repeat'((first|exact sNo|refine sT ?_|refine sF ?_|((first|refine sD ?_ ?_|refine sE ?_ ?_|refine sN ?_ ?_|refine sG ?_ ?_)<;>intro ht<;>(first|(cases ht;done)|skip))|refine wr ?_|refine ix ?_|refine ati ?_|refine row ?_|refine app ?_|refine dr ?_|refine VBs.own ?_|fail)<;>(try conv=>whnf))
          all_goals exact VRd.mk rfl ⟨nn - (i + 1), by omega, i + 1, by rw [g1] <;> rfl, by rw [g1] <;> rfl, by omega, rfl⟩
    · by_cases hjc : 3 < b.cn
      · have hs : allW b x 4 = (allW b x 3 && (decide (((3 : Nat) : Int) = b.self) || knownB x (b.has ((3 : Nat) : Int)))) := rfl
        have hkk := hkn (b.has ((3 : Nat) : Int))
        by_cases hse : 3 = b.self
        · rw [decide_eq_true (show (((3 : Nat) : Int) = b.self) from hse), Bool.true_or, Bool.and_true] at hs
          (try conv=>whnf)<;>repeat'((first|exact sNo|refine sT ?_|refine sF ?_|refine wr ?_|refine ix ?_|refine ati ?_|refine row ?_|refine dr ?_|fail)<;>(try conv=>whnf))
          all_goals exact VRd.mk rfl ⟨0, by omega, .inr (.inr (.inr (.inr (⟨by rw [hs] <;> rfl, rfl, by omega, rfl⟩))))⟩
        · rw [decide_eq_false (show ¬ (((3 : Nat) : Int) = b.self) from hse), Bool.false_or] at hs
          cases hk : knownB x (b.has ((3 : Nat) : Int))
          · rw [hk, Bool.and_false] at hs
            have hle : ¬ x.la ≤ b.has ((3 : Nat) : Int) x.dc := fun h => by rw [hkk.2 h] at hk; cases hk
            rcases four_dn hd with ⟨hd', hdd⟩ | ⟨hd', hdd⟩ | ⟨hd', hdd⟩ | ⟨hd', hdd⟩
            all_goals
              rw [hd'] at hle
              replace hle : ¬ x.la ≤ b.has 3 _ := hle
              (try conv=>whnf)<;>repeat'((first|exact sNo|refine sT ?_|refine sF ?_|refine wr ?_|refine ix ?_|refine ati ?_|refine row ?_|refine dr ?_|fail)<;>(try conv=>whnf))
              all_goals exact VRd.mk rfl ⟨0, by omega, .inr (.inr (.inr (.inr (⟨by rw [hs] <;> rfl, rfl, by omega, rfl⟩))))⟩
          · rw [hk, Bool.and_true] at hs
            have hle := hkk.1 hk
            rcases four_dn hd with ⟨hd', hdd⟩ | ⟨hd', hdd⟩ | ⟨hd', hdd⟩ | ⟨hd', hdd⟩
            all_goals
              rw [hd'] at hle
              replace hle : x.la ≤ b.has 3 _ := hle
              (try conv=>whnf)<;>repeat'((first|exact sNo|refine sT ?_|refine sF ?_|refine wr ?_|refine ix ?_|refine ati ?_|refine row ?_|refine dr ?_|fail)<;>(try conv=>whnf))
              all_goals exact VRd.mk rfl ⟨0, by omega, .inr (.inr (.inr (.inr (⟨by rw [hs] <;> rfl, rfl, by omega, rfl⟩))))⟩
      · have ec : b.cn.toNat = 3 := by omega
        rw [ec] at hgx
        cases hA : allW b x 3
        · obtain ⟨g1, g2⟩ := hst' (hgx.trans hA)
          (try conv=>whnf)<;>repeat'((first|exact sNo|refine sT ?_|refine sF ?_|((first|refine sD ?_ ?_|refine sE ?_ ?_|refine sN ?_ ?_|refine sG ?_ ?_)<;>intro ht<;>(first|(cases ht;done)|skip))|refine wr ?_|refine ix ?_|refine ati ?_|refine row ?_|refine app ?_|refine dr ?_|refine VBs.own ?_|fail)<;>(try conv=>whnf))
          all_goals exact VRd.mk rfl ⟨nn - (i + 1), by omega, i + 1, by rw [g2] <;> rfl, by rw [← g1] <;> rfl, by omega, rfl⟩
        · have g1 := hgo' (hgx.trans hA)
          (try conv=>whnf)<;>repeat'((first|exact sNo|refine sT ?_|refine sF ?_|((first|refine sD ?_ ?_|refine sE ?_ ?_|refine sN ?_ ?_|refine sG ?_ ?_)<;>intro ht<;>(first|(cases ht;done)|skip))|refine wr ?_|refine ix ?_|refine ati ?_|refine row ?_|refine app ?_|refine dr ?_|refine VBs.own ?_|fail)<;>(try conv=>whnf))
          all_goals exact VRd.mk rfl ⟨nn - (i + 1), by omega, i + 1, by rw [g1] <;> rfl, by rw [g1] <;> rfl, by omega, rfl⟩
    · have ec : b.cn.toNat = 4 := by omega
      rw [ec] at hgx
      cases hA : allW b x 4
      · obtain ⟨g1, g2⟩ := hst' (hgx.trans hA)
        (try conv=>whnf)<;>repeat'((first|exact sNo|refine sT ?_|refine sF ?_|((first|refine sD ?_ ?_|refine sE ?_ ?_|refine sN ?_ ?_|refine sG ?_ ?_)<;>intro ht<;>(first|(cases ht;done)|skip))|refine wr ?_|refine ix ?_|refine ati ?_|refine row ?_|refine app ?_|refine dr ?_|refine VBs.own ?_|fail)<;>(try conv=>whnf))
        all_goals exact VRd.mk rfl ⟨nn - (i + 1), by omega, i + 1, by rw [g2] <;> rfl, by rw [← g1] <;> rfl, by omega, rfl⟩
      · have g1 := hgo' (hgx.trans hA)
        (try conv=>whnf)<;>repeat'((first|exact sNo|refine sT ?_|refine sF ?_|((first|refine sD ?_ ?_|refine sE ?_ ?_|refine sN ?_ ?_|refine sG ?_ ?_)<;>intro ht<;>(first|(cases ht;done)|skip))|refine wr ?_|refine ix ?_|refine ati ?_|refine row ?_|refine app ?_|refine dr ?_|refine VBs.own ?_|fail)<;>(try conv=>whnf))
        all_goals exact VRd.mk rfl ⟨nn - (i + 1), by omega, i + 1, by rw [g1] <;> rfl, by rw [g1] <;> rfl, by omega, rfl⟩
  · obtain rfl : i = nn := by omega
    generalize X i = Xi at *
    (try conv=>whnf)<;>repeat'((first|exact sNo|refine sT ?_|refine sF ?_|((first|refine sD ?_ ?_|refine sE ?_ ?_|refine sN ?_ ?_|refine sG ?_ ?_)<;>intro ht<;>(first|(cases ht;done)|skip))|refine wr ?_|refine ix ?_|refine ati ?_|refine row ?_|refine app ?_|refine dr ?_|refine VBs.own ?_|fail)<;>(try conv=>whnf))
    all_goals (first | rfl | exact congrArg (fun z => AV.tup [_, z]) (congrArg i64 (by omega)))
end Go.Proofs.YtlghgdgpbnlpmaaGreat
