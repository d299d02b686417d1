/- What is proved: chapter 24's law function BufferFull answers true. Conditions: none. -/
import Derived.Test.YtlghgdgpbnlpmaaHg
import Derived.Test.YtlghgdgpbnlpmaaGq
namespace Go.Proofs.Ytlghgdgpbnlpmaa
open Go.RowKit
set_option linter.unusedVariables false
set_option linter.unusedSimpArgs false
set_option maxRecDepth 100000
set_option maxHeartbeats 100000000
def fullM (f : Int) (k : Nat) : List (Int × Bun) := ((List.range k).drop (k - 64)).map fun i => (((i : Nat) : Int) + 1, fullB f i)
def fullBuf (f : Int) (k : Nat) : Buf := ⟨0, 2, fullM f k, k, fun _ _ => 0⟩
theorem fullM_len (f : Int) (k : Nat) : (fullM f k).length = min k 64 := by unfold fullM; simp; omega
theorem fullM_succ (f : Int) (k : Nat) : addM (fullM f k) (k + 1) (fullB f k) = fullM f (k + 1) := by
  have e : fullM f k ++ [((k : Int) + 1, fullB f k)] = ((List.range (k + 1)).drop (k - 64)).map fun i => (((i : Nat) : Int) + 1, fullB f i) := by
    rw [List.range_succ, List.drop_append_of_le_length (by simp), List.map_append]
    rfl
  unfold addM
  rw [fullM_len, e]
  split
  · rw [← List.map_drop, List.drop_drop]
    unfold fullM
    rw [show k - 64 + 1 = k + 1 - 64 by omega]
  · unfold fullM
    rw [show k - 64 = k + 1 - 64 by omega]
theorem fullBuf_add {f : Int} (h0 : 0 ≤ f) (h1 : f ≤ 4294967295) {k : Nat} (hk : k ≤ 500) : addBuf (fullBuf f k) (fullB f k) = (fullBuf f (k + 1), (k : Int) + 1, 0) := by
  unfold addBuf
  rw [if_pos (fullB_right h0 h1 (by omega))]
  show (({ fullBuf f k with m := addM (fullM f k) ((k : Int) + 1) (fullB f k), last := (k : Int) + 1 } : Buf), (k : Int) + 1, (0 : Int)) = _
  rw [fullM_succ]
  rfl
theorem fullBuf_BI {f : Int} (h0 : 0 ≤ f) (h1 : f ≤ 4294967295) : ∀ {k : Nat}, k ≤ 500 → BI (fullBuf f k)
  | 0, _ => BI.new
  | k + 1, hk => by
    have := (fullBuf_BI h0 h1 (k := k) (by omega)).add (fullB_Sm f k) (by show (k : Int) < 1000000; omega)
    rw [fullBuf_add h0 h1 (by omega)] at this
    exact this
theorem fullM_at (f : Int) {k : Nat} (hk : 64 ≤ k) {i : Nat} (hi : i < 64) : ((fullM f k).map sqE)[i]? = some [i64 ((k : Int) - 63 + i)] := by
  unfold fullM
  rw [List.map_map, List.getElem?_map, List.getElem?_drop, List.getElem?_range (by omega)]
  show some [i64 (((k - 64 + i : Nat) : Int) + 1)] = _
  rw [show (((k - 64 + i : Nat) : Int) + 1) = (k : Int) - 63 + i by omega]
/-- nil cells of an argument, as empty lists -/
theorem AFn.nilA {P : Program} {f : FuncId} {a0 : AV} {cs : List AV} {h : List AP} {R : AV → List AP → Prop} (ha : AFn P f [a0, .agg (cs.map flatC)] h R) : AFn P f [a0, .agg cs] h R := by
  intro E vs L hnx hvs hh
  refine ha E vs L hnx ?_ hh
  simp only [VL, V] at hvs ⊢
  obtain ⟨u, us, rfl, h1, u', us', rfl, ⟨ws, rfl, h2⟩, rfl⟩ := hvs
  exact ⟨u, _, rfl, h1, _, [], rfl, ⟨ws, rfl, flatL_V h2⟩, rfl⟩
attribute [local irreducible] AFnP AFn AFnR in
theorem lawBFull_a (f n : Int) (h0 : 0 ≤ f) (h1 : f ≤ 4294967295) (hn : 0 ≤ n ∧ n ≤ 255) : AFnP Try.prog 4 [.int .u32 f, .int .u8 n] (.bool true) := by
  refine afp ty_ok Try.call4 Try.func4 ?_
  have r0 := awake24_a
  have r1 := bnew_t (s := 0) (c := 2) rfl
  have e0 : fullBuf f 0 = newBuf 0 2 := rfl
  rw [← e0] at r1
  have t1 : 0 ≤ n.tmod 100 := Int.tmod_nonneg 100 hn.1
  have t2 : n.tmod 100 < 100 := Int.tmod_lt_of_pos n (by decide)
  have hadd : ∀ i : Nat, i ≤ 400 → AFn Try.prog 12 [.op 0 0, .agg [i64 2, i64 (f + i), i64 (f + i + 1), i64 0, i64 0, i64 0, i64 0, .nils, .nils, .lst 1 [[i64 2, i64 (f + i + 1), i64 (f + i + 1)]]]] [bufP 0 (fullBuf f i)] (fun r h' => r = .tup [i64 ((i : Int) + 1), i64 0] ∧ h' = [bufP 0 (fullBuf f (i + 1))]) := fun i hi => by
    have q := badd_o (fullBuf f i) (fullB f i) (fullBuf_BI h0 h1 (by omega)) (fullB_Sm f i) (by show (i : Int) < 1000000; omega)
    rw [fullBuf_add h0 h1 (by omega)] at q
    exact AFn.nilA q
  have hseq : ∀ i : Nat, i ≤ 400 → 64 ≤ i → AFnP Try.prog 13 [.fp (bufE (fullBuf f i)) 0] (.lst 64 ((fullM f i).map sqE)) := fun i hi h64 => by
    have q := bseqs_a (fullBuf f i) (fullBuf_BI h0 h1 (by omega))
    have e : lstE sqE (fullBuf f i).m = .lst 64 ((fullM f i).map sqE) := by
      show AV.lst (fullM f i).length _ = _
      rw [fullM_len, show min i 64 = 64 by omega]
      rfl
    rw [e] at q
    exact q
  have hlen : ∀ i : Nat, 64 ≤ i → AFnP Try.prog 14 [.fp (bufE (fullBuf f i)) 0] (i64 64) := fun i h64 => by
    have q := blen_a (fullBuf f i)
    have e : ((fullBuf f i).m.length : Int) = 64 := by
      show ((fullM f i).length : Int) = 64
      rw [fullM_len]
      omega
    rw [e] at q
    exact q
  have hat := fun (k : Nat) (hk : 64 ≤ k) (i : Nat) (hi : i < 64) => fullM_at f hk hi
  clear e0
  obtain ⟨N, hN⟩ : ∃ N : Nat → Nat, ∀ i, N i = (fullM f i).length := ⟨_, fun _ => rfl⟩
  obtain ⟨R, hR⟩ : ∃ R : Nat → List (List AV), ∀ i, R i = (fullM f i).map prB := ⟨_, fun _ => rfl⟩
  have hb : ∀ i : Nat, bufE (fullBuf f i) = [i64 0, i64 2, .lst (N i) (R i), i64 (i : Nat), i64 0, i64 0, i64 0, i64 0, i64 0, i64 0, i64 0, i64 0, i64 0, i64 0, i64 0, i64 0, i64 0, i64 0, i64 0, i64 0] := fun i => by rw [hN, hR]; rfl
  unfold bufP at *
  simp only [hb] at r1 hadd hseq hlen
  clear hb hN hR
  (try conv=>whnf)<;>repeat'((first|exact sNo|refine sT ?_|refine sF ?_|((first|refine sD ?_ ?_|refine sE ?_ ?_|refine sN ?_ ?_|refine sG ?_ ?_)<;>intro ht<;>(first|(cases ht;done)|skip))|refine wr ?_|refine ix ?_|refine ati ?_|refine row ?_|refine app ?_|refine dr ?_|refine VAnd.mk ?_ ?_|exact VJe.mk rfl ⟨rfl,rfl⟩|refine .inl (slM ?_)|refine .inl (slO ?_)|refine slM ?_|refine slO ?_|refine slN ?_|refine slS ?_|refine swB (swM fun C hC=>?_)|refine sj ?_|refine .inl (sv ?_)|refine sv ?_|refine cl ?_|refine s3 ?_|refine az ?_|refine rm ?_|refine VBs.own ?_|refine cf r0 ?_|refine cg r0 ?_|refine cz r0 ?_|(refine co r1 ?_;rintro r h' ⟨rfl,rfl⟩)|fail)<;>(try conv=>whnf))
  generalize n.tmod 100 = m at *
  refine VLp.mk ⟨[], [5], [27], fun k vs h => ∃ i : Nat, vs = [i64 i] ∧ h = [.blk 0 [i64 0, i64 2, .lst (N i) (R i), i64 (i : Nat), i64 0, i64 0, i64 0, i64 0, i64 0, i64 0, i64 0, i64 0, i64 0, i64 0, i64 0, i64 0, i64 0, i64 0, i64 0, i64 0] 77] ∧ (i : Int) ≤ 64 + m ∧ k = (64 + m).toNat - i, (64 + m).toNat, ?_⟩
  conv => whnf
  refine ⟨⟨0, rfl, rfl, by omega, by omega⟩, ?_⟩
  rintro k vs h ⟨i, rfl, rfl, hi, rfl⟩
  by_cases hin : (i : Int) < 64 + m
  · have q := hadd i (by omega)
    (try conv=>whnf)<;>repeat'((first|refine VBs.frz ?_|exact sNo|refine sT ?_|refine sF ?_|((first|refine sD ?_ ?_|refine sE ?_ ?_|refine sN ?_ ?_|refine sG ?_ ?_)<;>intro ht<;>(first|(cases ht;done)|skip))|refine wr ?_|refine ix ?_|refine ati ?_|refine row ?_|refine app ?_|refine dr ?_|refine VAnd.mk ?_ ?_|exact VJe.mk rfl ⟨rfl,rfl⟩|refine .inl (slM ?_)|refine .inl (slO ?_)|refine slM ?_|refine slO ?_|refine slN ?_|refine slS ?_|refine swB (swM fun C hC=>?_)|refine sj ?_|refine .inl (sv ?_)|refine sv ?_|refine cl ?_|refine s3 ?_|refine az ?_|refine rm ?_|refine VBs.own ?_|(refine co q ?_;rintro r h' ⟨rfl,rfl⟩)|fail)<;>(try conv=>whnf))
    all_goals exact VRd.mk rfl ⟨(64 + m).toNat - (i + 1), by omega, i + 1, rfl, rfl, by omega, rfl⟩
  · have q := hseq i (by omega) (by omega)
    have q2 := hlen i (by omega)
    have hrow := fun j (h : j < 64) => hat i (by omega) j h
    generalize (fullM f i).map sqE = Q at *
    clear hat hadd hseq hlen
    (try conv=>whnf)<;>repeat'((first|exact sNo|refine sT ?_|refine sF ?_|((first|refine sD ?_ ?_|refine sE ?_ ?_|refine sN ?_ ?_|refine sG ?_ ?_)<;>intro ht<;>(first|(cases ht;done)|skip))|refine wr ?_|refine ix ?_|refine ati ?_|refine row ?_|refine app ?_|refine dr ?_|refine VAnd.mk ?_ ?_|exact VJe.mk rfl ⟨rfl,rfl⟩|refine .inl (slM ?_)|refine .inl (slO ?_)|refine slM ?_|refine slO ?_|refine slN ?_|refine slS ?_|refine swB (swM fun C hC=>?_)|refine sj ?_|refine .inl (sv ?_)|refine sv ?_|refine cl ?_|refine s3 ?_|refine az ?_|refine rm ?_|refine VBs.own ?_|refine cf q ?_|refine cg q ?_|refine cz q ?_|fail)<;>(try conv=>whnf))
    refine VLp.mk ⟨[], [], [66], fun k vs h => ∃ j : Nat, vs = [i64 j] ∧ h = [] ∧ j ≤ 64 ∧ k = 64 - j, 64, ?_⟩
    conv => whnf
    refine ⟨⟨0, rfl, rfl, by omega, by omega⟩, ?_⟩
    rintro k vs h ⟨j, rfl, rfl, hj, rfl⟩
    by_cases hjn : j < 64
    · have hr := hrow j hjn
      (try conv=>whnf)<;>repeat'((first|exact sNo|refine sT ?_|refine sF ?_|((first|refine sD ?_ ?_|refine sE ?_ ?_|refine sN ?_ ?_|refine sG ?_ ?_)<;>intro ht<;>(first|(cases ht;done)|skip))|refine wr ?_|refine ix ?_|refine ati ?_|refine row ?_|refine app ?_|refine dr ?_|refine VAnd.mk ?_ ?_|exact VJe.mk rfl ⟨rfl,rfl⟩|refine .inl (slM ?_)|refine .inl (slO ?_)|refine slM ?_|refine slO ?_|refine slN ?_|refine slS ?_|refine swB (swM fun C hC=>?_)|refine sj ?_|refine .inl (sv ?_)|refine sv ?_|refine cl ?_|refine s3 ?_|refine az ?_|refine rm ?_|refine VBs.own ?_|fail)<;>(try conv=>whnf))
      all_goals exact VRd.mk rfl ⟨64 - (j + 1), by omega, j + 1, rfl, rfl, by omega, rfl⟩
    · (try conv=>whnf)<;>repeat'((first|exact sNo|refine sT ?_|refine sF ?_|((first|refine sD ?_ ?_|refine sE ?_ ?_|refine sN ?_ ?_|refine sG ?_ ?_)<;>intro ht<;>(first|(cases ht;done)|skip))|refine wr ?_|refine ix ?_|refine ati ?_|refine row ?_|refine app ?_|refine dr ?_|refine VAnd.mk ?_ ?_|exact VJe.mk rfl ⟨rfl,rfl⟩|refine .inl (slM ?_)|refine .inl (slO ?_)|refine slM ?_|refine slO ?_|refine slN ?_|refine slS ?_|refine swB (swM fun C hC=>?_)|refine sj ?_|refine .inl (sv ?_)|refine sv ?_|refine cl ?_|refine s3 ?_|refine az ?_|refine rm ?_|refine VBs.own ?_|refine cf q2 ?_|refine cg q2 ?_|refine cz q2 ?_|fail)<;>(try conv=>whnf))
      all_goals rfl
end Go.Proofs.Ytlghgdgpbnlpmaa
