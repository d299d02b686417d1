/- What is proved: chapter 24's law function BufferOwn answers true. Conditions: none. -/
import Derived.Test.YtlghgdgpbnlpmaaGreatOb
import Derived.Test.YtlghgdgpbnlpmaaGreatMOb
import Derived.Test.YtlghgdgpbnlpmaaGreatMHc
import Derived.Test.YtlghgdgpbnlpmaaGreatGm
import Derived.SizedLaws
namespace Go.Proofs.YtlghgdgpbnlpmaaGreat
open Go.RowKit
set_option linter.unusedVariables false
set_option linter.unusedSimpArgs false
set_option maxRecDepth 100000
set_option maxHeartbeats 100000000
theorem stepS_Sm {s : SS} {x : Bun} (h : ∀ b ∈ s.2, SmB b) (hx : SmB x) : ∀ b ∈ (stepS s x).2, SmB b := by
  unfold stepS
  split
  · intro b hb
    rcases List.mem_append.1 hb with hb | hb
    · exact h b hb
    · rw [List.mem_singleton] at hb; subst hb; exact hx
  · exact h
theorem passS_Sm : ∀ {L : List Bun} {s : SS}, (∀ b ∈ s.2, SmB b) → (∀ b ∈ L, SmB b) → ∀ b ∈ (passS L s).2, SmB b
  | [], s, h, _ => h
  | x :: L, s, h, hL => passS_Sm (L := L) (s := stepS s x) (stepS_Sm h (hL x (List.mem_cons_self ..))) fun b hb => hL b (List.mem_cons_of_mem _ hb)
theorem iterS_Sm {L : List Bun} {s : SS} (h : ∀ b ∈ s.2, SmB b) (hL : ∀ b ∈ L, SmB b) : ∀ n, ∀ b ∈ (iterS L n s).2, SmB b
  | 0 => h
  | n + 1 => passS_Sm (iterS_Sm h hL n) hL
theorem forS_SmB {b : Buf} (hB : BI b) (p : Int) (q : Nat) : ∀ x ∈ (forS b p).2.take q, SmB x := fun x hx => by
  refine iterS_Sm (L := b.m.map (·.2)) (s := (b.has p, [])) (fun b hb => by cases hb) (fun y hy => ?_) b.m.length x (List.mem_of_mem_take hx)
  obtain ⟨z, hz, rfl⟩ := List.mem_map.1 hy
  exact (hB.ok z hz).2
theorem for1_ok {b : Buf} (h1 : b.self = 0) (h2 : b.cn = 2) : forOk b 1 (fun _ => 0) 64 = true := by
  unfold forOk peerB
  rw [h1, h2]
  decide
theorem addB_keep (b : Buf) (x : Bun) : (addBuf b x).1.self = b.self ∧ (addBuf b x).1.cn = b.cn ∧ (addBuf b x).1.last ≤ b.last + 1 := by
  unfold addBuf
  split
  · exact ⟨rfl, rfl, Int.le_refl _⟩
  · exact ⟨rfl, rfl, by show b.last ≤ b.last + 1; omega⟩
/-! a nil buffer -/
abbrev zvE : AV := .agg [i64 0, i64 0, i64 0, i64 0]
theorem nclear_n : AFnP Tryz.prog 51 [.nilp] (.tup []) := by
  refine afp ty_ok Tryz.call51 Tryz.func51 ?_
  (try conv=>whnf)<;>repeat'((first|exact sNo|refine sT ?_|refine sF ?_|((first|refine sD ?_ ?_|refine sE ?_ ?_|refine sN ?_ ?_|refine sG ?_ ?_)<;>intro ht<;>(first|(cases ht;done)|skip))|refine wr ?_|refine ix ?_|refine ati ?_|refine row ?_|refine app ?_|refine dr ?_|refine VAnd.mk ?_ ?_|exact VJe.mk rfl ⟨rfl,rfl⟩|refine .inl (slM ?_)|refine .inl (slO ?_)|refine slM ?_|refine slO ?_|refine slN ?_|refine slS ?_|refine swB (swM fun C hC=>?_)|refine sj ?_|refine .inl (sv ?_)|refine sv ?_|refine cl ?_|refine s3 ?_|refine az ?_|refine rm ?_|refine VBs.own ?_|fail)<;>(try conv=>whnf))
  all_goals rfl
theorem nadd_n : AFnP Tryz.prog 47 [.nilp, .agg (bunE firstB)] (.tup [i64 0, i64 1]) := by
  refine afp ty_ok Tryz.call47 Tryz.func47 ?_
  (try conv=>whnf)<;>repeat'((first|exact sNo|refine sT ?_|refine sF ?_|((first|refine sD ?_ ?_|refine sE ?_ ?_|refine sN ?_ ?_|refine sG ?_ ?_)<;>intro ht<;>(first|(cases ht;done)|skip))|refine wr ?_|refine ix ?_|refine ati ?_|refine row ?_|refine app ?_|refine dr ?_|refine VAnd.mk ?_ ?_|exact VJe.mk rfl ⟨rfl,rfl⟩|refine .inl (slM ?_)|refine .inl (slO ?_)|refine slM ?_|refine slO ?_|refine slN ?_|refine slS ?_|refine swB (swM fun C hC=>?_)|refine sj ?_|refine .inl (sv ?_)|refine sv ?_|refine cl ?_|refine s3 ?_|refine az ?_|refine rm ?_|refine VBs.own ?_|fail)<;>(try conv=>whnf))
  all_goals rfl
theorem npeer_n : AFnP Tryz.prog 74 [.nilp, i64 0] (.bool false) := by
  refine afp ty_ok Tryz.call74 Tryz.func74 ?_
  (try conv=>whnf)<;>repeat'((first|exact sNo|refine sT ?_|refine sF ?_|((first|refine sD ?_ ?_|refine sE ?_ ?_|refine sN ?_ ?_|refine sG ?_ ?_)<;>intro ht<;>(first|(cases ht;done)|skip))|refine wr ?_|refine ix ?_|refine ati ?_|refine row ?_|refine app ?_|refine dr ?_|refine VAnd.mk ?_ ?_|exact VJe.mk rfl ⟨rfl,rfl⟩|refine .inl (slM ?_)|refine .inl (slO ?_)|refine slM ?_|refine slO ?_|refine slN ?_|refine slS ?_|refine swB (swM fun C hC=>?_)|refine sj ?_|refine .inl (sv ?_)|refine sv ?_|refine cl ?_|refine s3 ?_|refine az ?_|refine rm ?_|refine VBs.own ?_|fail)<;>(try conv=>whnf))
  all_goals rfl
theorem nfor_n : AFnP Tryz.prog 37 [.nilp, i64 0, zvE, i64 1] (.tup [.lst 0 [], .bool false, i64 1]) := by
  refine afp ty_ok Tryz.call37 Tryz.func37 ?_
  have r := npeer_n
  (try conv=>whnf)<;>repeat'((first|exact sNo|refine sT ?_|refine sF ?_|((first|refine sD ?_ ?_|refine sE ?_ ?_|refine sN ?_ ?_|refine sG ?_ ?_)<;>intro ht<;>(first|(cases ht;done)|skip))|refine wr ?_|refine ix ?_|refine ati ?_|refine row ?_|refine app ?_|refine dr ?_|refine VAnd.mk ?_ ?_|exact VJe.mk rfl ⟨rfl,rfl⟩|refine .inl (slM ?_)|refine .inl (slO ?_)|refine slM ?_|refine slO ?_|refine slN ?_|refine slS ?_|refine swB (swM fun C hC=>?_)|refine sj ?_|refine .inl (sv ?_)|refine sv ?_|refine cl ?_|refine s3 ?_|refine az ?_|refine rm ?_|refine VBs.own ?_|refine cf r ?_|refine cg r ?_|refine cz r ?_|fail)<;>(try conv=>whnf))
  all_goals rfl
theorem nheard_n : AFnP Tryz.prog 39 [.nilp, i64 0, zvE] (i64 1) := by
  refine afp ty_ok Tryz.call39 Tryz.func39 ?_
  have r := npeer_n
  (try conv=>whnf)<;>repeat'((first|exact sNo|refine sT ?_|refine sF ?_|((first|refine sD ?_ ?_|refine sE ?_ ?_|refine sN ?_ ?_|refine sG ?_ ?_)<;>intro ht<;>(first|(cases ht;done)|skip))|refine wr ?_|refine ix ?_|refine ati ?_|refine row ?_|refine app ?_|refine dr ?_|refine VAnd.mk ?_ ?_|exact VJe.mk rfl ⟨rfl,rfl⟩|refine .inl (slM ?_)|refine .inl (slO ?_)|refine slM ?_|refine slO ?_|refine slN ?_|refine slS ?_|refine swB (swM fun C hC=>?_)|refine sj ?_|refine .inl (sv ?_)|refine sv ?_|refine cl ?_|refine s3 ?_|refine az ?_|refine rm ?_|refine VBs.own ?_|refine cf r ?_|refine cg r ?_|refine cz r ?_|fail)<;>(try conv=>whnf))
  all_goals rfl
theorem nhas_n : AFnP Tryz.prog 38 [.nilp, i64 0] zvE := by
  refine afp ty_ok Tryz.call38 Tryz.func38 ?_
  have r := npeer_n
  (try conv=>whnf)<;>repeat'((first|exact sNo|refine sT ?_|refine sF ?_|((first|refine sD ?_ ?_|refine sE ?_ ?_|refine sN ?_ ?_|refine sG ?_ ?_)<;>intro ht<;>(first|(cases ht;done)|skip))|refine wr ?_|refine ix ?_|refine ati ?_|refine row ?_|refine app ?_|refine dr ?_|refine VAnd.mk ?_ ?_|exact VJe.mk rfl ⟨rfl,rfl⟩|refine .inl (slM ?_)|refine .inl (slO ?_)|refine slM ?_|refine slO ?_|refine slN ?_|refine slS ?_|refine swB (swM fun C hC=>?_)|refine sj ?_|refine .inl (sv ?_)|refine sv ?_|refine cl ?_|refine s3 ?_|refine az ?_|refine rm ?_|refine VBs.own ?_|refine cf r ?_|refine cg r ?_|refine cz r ?_|fail)<;>(try conv=>whnf))
  all_goals rfl
theorem ncol_n : AFnP Tryz.prog 42 [.nilp] (i64 0) := by
  refine afp ty_ok Tryz.call42 Tryz.func42 ?_
  (try conv=>whnf)<;>repeat'((first|exact sNo|refine sT ?_|refine sF ?_|((first|refine sD ?_ ?_|refine sE ?_ ?_|refine sN ?_ ?_|refine sG ?_ ?_)<;>intro ht<;>(first|(cases ht;done)|skip))|refine wr ?_|refine ix ?_|refine ati ?_|refine row ?_|refine app ?_|refine dr ?_|refine VAnd.mk ?_ ?_|exact VJe.mk rfl ⟨rfl,rfl⟩|refine .inl (slM ?_)|refine .inl (slO ?_)|refine slM ?_|refine slO ?_|refine slN ?_|refine slS ?_|refine swB (swM fun C hC=>?_)|refine sj ?_|refine .inl (sv ?_)|refine sv ?_|refine cl ?_|refine s3 ?_|refine az ?_|refine rm ?_|refine VBs.own ?_|fail)<;>(try conv=>whnf))
  all_goals rfl
theorem nlen_n : AFnP Tryz.prog 41 [.nilp] (i64 0) := by
  refine afp ty_ok Tryz.call41 Tryz.func41 ?_
  (try conv=>whnf)<;>repeat'((first|exact sNo|refine sT ?_|refine sF ?_|((first|refine sD ?_ ?_|refine sE ?_ ?_|refine sN ?_ ?_|refine sG ?_ ?_)<;>intro ht<;>(first|(cases ht;done)|skip))|refine wr ?_|refine ix ?_|refine ati ?_|refine row ?_|refine app ?_|refine dr ?_|refine VAnd.mk ?_ ?_|exact VJe.mk rfl ⟨rfl,rfl⟩|refine .inl (slM ?_)|refine .inl (slO ?_)|refine slM ?_|refine slO ?_|refine slN ?_|refine slS ?_|refine swB (swM fun C hC=>?_)|refine sj ?_|refine .inl (sv ?_)|refine sv ?_|refine cl ?_|refine s3 ?_|refine az ?_|refine rm ?_|refine VBs.own ?_|fail)<;>(try conv=>whnf))
  all_goals rfl
theorem nseqs_n : AFnP Tryz.prog 53 [.nilp] (.lst 0 []) := by
  refine afp ty_ok Tryz.call53 Tryz.func53 ?_
  (try conv=>whnf)<;>repeat'((first|exact sNo|refine sT ?_|refine sF ?_|((first|refine sD ?_ ?_|refine sE ?_ ?_|refine sN ?_ ?_|refine sG ?_ ?_)<;>intro ht<;>(first|(cases ht;done)|skip))|refine wr ?_|refine ix ?_|refine ati ?_|refine row ?_|refine app ?_|refine dr ?_|refine VAnd.mk ?_ ?_|exact VJe.mk rfl ⟨rfl,rfl⟩|refine .inl (slM ?_)|refine .inl (slO ?_)|refine slM ?_|refine slO ?_|refine slN ?_|refine slS ?_|refine swB (swM fun C hC=>?_)|refine sj ?_|refine .inl (sv ?_)|refine sv ?_|refine cl ?_|refine s3 ?_|refine az ?_|refine rm ?_|refine VBs.own ?_|fail)<;>(try conv=>whnf))
  all_goals rfl
theorem ownL_cons {z : BnO} {Z : List BnO} {Q : List RowD} (h : OwnL (z :: Z) Q) : ∃ D Q1 Q2, Q = D :: (Q1 ++ Q2) ∧ OwnT z.1.t z.2.1 z.2.2.1 Q1 ∧ OwnL Z Q2 := by
  rw [OwnL] at h
  obtain ⟨Qa, Q2, rfl, ⟨D, Q1, rfl, _, h1⟩, h2⟩ := h
  exact ⟨D, Q1, Q2, rfl, h1, h2⟩
theorem own_perm24 {Qj Q1 Q2 G : List RowD} {d : RowD} (h : Qj.Perm (d :: (Q1 ++ Q2) ++ G)) : Qj.Perm (Q1 ++ (d :: (Q2 ++ G))) := by
  refine h.trans ?_
  rw [List.cons_append, List.append_assoc]
  exact List.perm_middle.symm
theorem lawBOwn_a (l : List Bun) (hb : ∀ b ∈ l, bndT b.t) : AFnP Tryz.prog 10 [lstE bunE l] (.bool true) := by
  refine AFnP.arena ?_ rfl
  refine afn_in ty_ok Tryz.call10 Tryz.func10 rfl rfl (by decide +kernel) ?_
  have r0 := awake24_a
  cases hs : (decide (l.length ≤ 20) && l.all fun b => smallB b 30)
  · have s1 := rsmalls24_p (n := 20) (by decide) hb hs
    (try conv=>whnf)<;>repeat'((first|exact sNo|refine sT ?_|refine sF ?_|((first|refine sD ?_ ?_|refine sE ?_ ?_|refine sN ?_ ?_|refine sG ?_ ?_)<;>intro ht<;>(first|(cases ht;done)|skip))|refine wr ?_|refine ix ?_|refine ati ?_|refine row ?_|refine app ?_|refine dr ?_|refine VAnd.mk ?_ ?_|exact VJe.mk rfl ⟨rfl,rfl⟩|refine .inl (slM ?_)|refine .inl (slO ?_)|refine slM ?_|refine slO ?_|refine slN ?_|refine slS ?_|refine swB (swM fun C hC=>?_)|refine sj ?_|refine .inl (sv ?_)|refine sv ?_|refine cl ?_|refine s3 ?_|refine az ?_|refine rm ?_|refine VBs.own ?_|refine cf r0 ?_|refine cg r0 ?_|refine cz r0 ?_|refine cf s1 ?_|refine cg s1 ?_|refine cz s1 ?_|fail)<;>(try conv=>whnf))
    all_goals exact VRt.mk rfl ⟨rfl, _, rfl⟩
  have s1 := rsmalls24_p (n := 20) (by decide) hb hs
  rw [Bool.and_eq_true, decide_eq_true_eq] at hs
  obtain ⟨hs0, hs1⟩ := hs
  have hS : ∀ b ∈ l, SmB b := fun b hb' => small_SmB (by decide) (List.all_eq_true.1 hs1 b hb')
  have hn : newOk 0 2 = true := by decide
  have r1 := bnew_t hn
  have r2 := rnew_t hn
  have hB0 : BI (newBuf 0 2) := BI.new
  have hc0 : (newBuf 0 2).cn = 2 := rfl
  have hf0 : (newBuf 0 2).self = 0 := rfl
  have hl0 : (newBuf 0 2).last = 0 := rfl
  generalize newBuf 0 2 = B0 at *
  (try conv=>whnf)<;>repeat'((first|exact sNo|refine sT ?_|refine sF ?_|((first|refine sD ?_ ?_|refine sE ?_ ?_|refine sN ?_ ?_|refine sG ?_ ?_)<;>intro ht<;>(first|(cases ht;done)|skip))|refine wr ?_|refine ix ?_|refine ati ?_|refine row ?_|refine app ?_|refine dr ?_|refine VAnd.mk ?_ ?_|exact VJe.mk rfl ⟨rfl,rfl⟩|refine .inl (slM ?_)|refine .inl (slO ?_)|refine slM ?_|refine slO ?_|refine slN ?_|refine slS ?_|refine swB (swM fun C hC=>?_)|refine sj ?_|refine .inl (sv ?_)|refine sv ?_|refine cl ?_|refine s3 ?_|refine az ?_|refine rm ?_|refine VBs.own ?_|refine cf r0 ?_|refine cg r0 ?_|refine cz r0 ?_|refine cf s1 ?_|refine cg s1 ?_|refine cz s1 ?_|(refine co r1 ?_;rintro r h' ⟨rfl,rfl⟩)|refine cf r2 ?_|refine cg r2 ?_|refine cz r2 ?_|fail)<;>(try conv=>whnf))
  refine VLp.mk ⟨[], [3, 5], [44], fun k vs h => ∃ (i : Nat) (b : Buf) (Q : List RowD), vs = [i64 i] ∧ h = [.bag 0 Q, bufP 1 b, .blk 2 (bufE b) 92] ∧ i ≤ l.length ∧ k = l.length - i ∧ BI b ∧ b.self = 0 ∧ b.cn = 2 ∧ b.last ≤ i, l.length, ?_⟩
  conv => whnf
  refine ⟨⟨0, B0, [], rfl, rfl, by omega, by omega, hB0, hf0, hc0, by omega⟩, ?_⟩
  clear hB0 hc0 hf0 hl0 r1 r2
  rintro k vs h ⟨i, b, Q, rfl, rfl, hi, rfl, hB, hf, hc, hl⟩
  by_cases hin : i < l.length
  · have hSb := hS _ (List.getElem_mem hin)
    have hcnt := hSb.cnt
    have hlen := hB.len
    have hlst := hB.last
    have q0 := rcloneA (deepT l[i].t) l[i].t (Nat.le_refl _) (by omega) Q
    have q2 := radd24_a b l[i] hSb hlen ⟨hlst.1, by omega⟩
    have q1 := fun (x : Sl3 × Sl3) (Qt Q' : List RowD) (hp : Q'.Perm (Qt ++ Q)) (ho : OwnT l[i].t x.1 x.2 Qt) => badd_l b l[i] hB hSb (by omega) hp ho
    have q3 := fun (a b : Sl3) (Qt Q' : List RowD) (hp : Q'.Perm (Qt ++ Q)) (ho : OwnT l[i].t a b Qt) => scribA (deepT l[i].t) l[i].t (Nat.le_refl _) (by omega) a b Qt Q Q' ho hp
    have hB' := hB.add hSb (by omega)
    obtain ⟨hf', hc', hl'⟩ := addB_keep b l[i]
    rw [hf] at hf'
    rw [hc] at hc'
    have q4 := fun Ps => bfor_A (addBuf b l[i]).1 (fun _ => 0) 64 hB' (for1_ok hf' hc') Ps
    have hl2 : (addBuf b l[i]).1.last ≤ ((i + 1 : Nat) : Int) := by omega
    have hSf := forS_SmB hB' 1 (64 : Int).toNat
    clear hl'
    have hOl : ((forS (addBuf b l[i]).1 1).2.take (64 : Int).toNat).length ≤ 64 := by rw [List.length_take]; have : (64 : Int).toNat = 64 := rfl; omega
    generalize (addBuf b l[i]).2.1 = e1 at *
    generalize (addBuf b l[i]).2.2 = e2 at *
    generalize (addBuf b l[i]).1 = b' at *
    generalize atMost (fun _ => 0) (forS b' 1).1 = t at *
    generalize (forS b' 1).2.take (64 : Int).toNat = O at *
    (try conv=>whnf)<;>repeat'((first|exact sNo|refine sT ?_|refine sF ?_|((first|refine sD ?_ ?_|refine sE ?_ ?_|refine sN ?_ ?_|refine sG ?_ ?_)<;>intro ht<;>(first|(cases ht;done)|skip))|refine wr ?_|refine ix ?_|refine ati ?_|refine row ?_|refine app ?_|refine dr ?_|refine VAnd.mk ?_ ?_|exact VJe.mk rfl ⟨rfl,rfl⟩|refine .inl (slM ?_)|refine .inl (slO ?_)|refine slM ?_|refine slO ?_|refine slN ?_|refine slS ?_|refine swB (swM fun C hC=>?_)|refine sj ?_|refine .inl (sv ?_)|refine sv ?_|refine cl ?_|refine s3 ?_|refine az ?_|refine rm ?_|refine VBs.own ?_|(refine ca q0 ?_;rintro r h' ⟨ta,tb,Qt,Q',rfl,rfl,hp,ho⟩)|fail)<;>(try conv=>whnf))
    (try conv=>whnf)<;>repeat'((first|(refine .inr (.inr (VJn.mk ⟨[1005,2000],[],[],4,fun vs h => vs = [] ∧ h = [.bag 0 Q',bufP 1 b',.blk 2 (bufE b') 92,.blk 3 [i64 l[i].dc,i64 l[i].af,i64 l[i].la,i64 (l[i].dp 0),i64 (l[i].dp 1),i64 (l[i].dp 2),i64 (l[i].dp 3),.sval ta.1 ta.2.1 ta.2.2,.sval tb.1 tb.2.1 tb.2.2,.lst l[i].c.length (l[i].c.map spE)] 43],?_⟩));(conv => whnf);refine ⟨by decide +kernel,?_,?_⟩;rotate_left;rintro _ _ ⟨rfl,rfl⟩;rotate_right)|exact sNo|refine sT ?_|refine sF ?_|((first|refine sD ?_ ?_|refine sE ?_ ?_|refine sN ?_ ?_|refine sG ?_ ?_)<;>intro ht<;>(first|(cases ht;done)|skip))|refine wr ?_|refine ix ?_|refine ati ?_|refine row ?_|refine app ?_|refine dr ?_|refine VAnd.mk ?_ ?_|exact VJe.mk rfl ⟨rfl,rfl⟩|refine .inl (slM ?_)|refine .inl (slO ?_)|refine slM ?_|refine slO ?_|refine slN ?_|refine slS ?_|refine swB (swM fun C hC=>?_)|refine sj ?_|refine .inl (sv ?_)|refine sv ?_|refine cl ?_|refine s3 ?_|refine az ?_|refine rm ?_|refine VBs.own ?_|(refine ca (q1 (ta,tb) Qt Q' hp ho) ?_;rintro r h' ⟨rfl,rfl⟩)|refine cp q2 ?_|refine cf q2 ?_|refine cg q2 ?_|refine cz q2 ?_|fail)<;>(try conv=>whnf))
    all_goals
      (try conv=>whnf)<;>repeat'((first|exact sNo|refine sT ?_|refine sF ?_|((first|refine sD ?_ ?_|refine sE ?_ ?_|refine sN ?_ ?_|refine sG ?_ ?_)<;>intro ht<;>(first|(cases ht;done)|skip))|refine wr ?_|refine ix ?_|refine ati ?_|refine row ?_|refine app ?_|refine dr ?_|refine VAnd.mk ?_ ?_|exact VJe.mk rfl ⟨rfl,rfl⟩|refine .inl (slM ?_)|refine .inl (slO ?_)|refine slM ?_|refine slO ?_|refine slN ?_|refine slS ?_|refine swB (swM fun C hC=>?_)|refine sj ?_|refine .inl (sv ?_)|refine sv ?_|refine cl ?_|refine s3 ?_|refine az ?_|refine rm ?_|refine VBs.own ?_|(refine ca (q3 ta tb Qt Q' hp ho) ?_;rintro r h' ⟨rfl,Q1,rfl,hp1⟩)|fail)<;>(try conv=>whnf))
      (try conv=>whnf)<;>repeat'((first|exact sNo|refine sT ?_|refine sF ?_|((first|refine sD ?_ ?_|refine sE ?_ ?_|refine sN ?_ ?_|refine sG ?_ ?_)<;>intro ht<;>(first|(cases ht;done)|skip))|refine wr ?_|refine ix ?_|refine ati ?_|refine row ?_|refine app ?_|refine dr ?_|refine VAnd.mk ?_ ?_|exact VJe.mk rfl ⟨rfl,rfl⟩|refine .inl (slM ?_)|refine .inl (slO ?_)|refine slM ?_|refine slO ?_|refine slN ?_|refine slS ?_|refine swB (swM fun C hC=>?_)|refine sj ?_|refine .inl (sv ?_)|refine sv ?_|refine cl ?_|refine s3 ?_|refine az ?_|refine rm ?_|refine VBs.own ?_|(refine ca (q4 Q1) ?_;rintro r h' ⟨Z,Q2,Q3,rfl,rfl,hZ,hp2,hO⟩)|fail)<;>(try conv=>whnf))
      all_goals
        have hZl : Z.length ≤ 64 := by rw [← hZ, List.length_map] at hOl; exact hOl
        refine VLp.mk ⟨[], [3, 5, 9], [83], fun k vs h => ∃ (j : Nat) (Qj Qd G : List RowD), vs = [i64 j] ∧ h = [.bag 0 Qj, bufP 1 b', .blk 2 (bufE b') 92, .row 3 50 10 (Z.map bnO)] ∧ j ≤ Z.length ∧ k = Z.length - j ∧ Qj.Perm (Qd ++ G) ∧ OwnL (Z.drop j) Qd, Z.length, ?_⟩
        conv => whnf
        refine ⟨⟨0, Q3, Q2, Q1, rfl, rfl, by omega, by omega, hp2, hO⟩, ?_⟩
        clear hp2 hO q1 q3 q4 q0 hp ho hp1
        rintro k vs h ⟨j, Qj, Qd, G, rfl, rfl, hj, rfl, hpj, hOj⟩
        by_cases hjn : j < Z.length
        · rw [List.drop_eq_getElem_cons hjn] at hOj
          obtain ⟨D, Qa, Qb, rfl, hot, hOr⟩ := ownL_cons hOj
          have hz : Z[j].1 ∈ O := by
            rw [← hZ]
            exact List.mem_map.2 ⟨Z[j], List.getElem_mem hjn, rfl⟩
          have hcz := (hSf _ hz).cnt
          have q := scribA (deepT Z[j].1.t) Z[j].1.t (Nat.le_refl _) (by omega) _ _ Qa (D :: (Qb ++ G)) Qj hot (own_perm24 hpj)
          have hr : (Z.map bnO)[j]? = some (bnO Z[j]) := by rw [List.getElem?_map, List.getElem?_eq_getElem hjn] <;> rfl
          (try conv=>whnf)<;>repeat'((first|exact sNo|refine sT ?_|refine sF ?_|((first|refine sD ?_ ?_|refine sE ?_ ?_|refine sN ?_ ?_|refine sG ?_ ?_)<;>intro ht<;>(first|(cases ht;done)|skip))|refine wr ?_|refine ix ?_|refine ati ?_|refine row ?_|refine app ?_|refine dr ?_|refine VAnd.mk ?_ ?_|exact VJe.mk rfl ⟨rfl,rfl⟩|refine .inl (slM ?_)|refine .inl (slO ?_)|refine slM ?_|refine slO ?_|refine slN ?_|refine slS ?_|refine swB (swM fun C hC=>?_)|refine sj ?_|refine .inl (sv ?_)|refine sv ?_|refine cl ?_|refine s3 ?_|refine az ?_|refine rm ?_|refine VBs.own ?_|(refine ca q ?_;rintro r h' ⟨rfl,Q5,rfl,hp5⟩)|fail)<;>(try conv=>whnf))
          all_goals exact VRd.mk rfl ⟨Z.length - (j + 1), by omega, j + 1, Q5, Qb, D :: G, rfl, rfl, by omega, rfl, hp5.trans List.perm_middle.symm, hOr⟩
        · (try conv=>whnf)<;>repeat'((first|exact sNo|refine sT ?_|refine sF ?_|((first|refine sD ?_ ?_|refine sE ?_ ?_|refine sN ?_ ?_|refine sG ?_ ?_)<;>intro ht<;>(first|(cases ht;done)|skip))|refine wr ?_|refine ix ?_|refine ati ?_|refine row ?_|refine app ?_|refine dr ?_|refine VAnd.mk ?_ ?_|exact VJe.mk rfl ⟨rfl,rfl⟩|refine .inl (slM ?_)|refine .inl (slO ?_)|refine slM ?_|refine slO ?_|refine slN ?_|refine slS ?_|refine swB (swM fun C hC=>?_)|refine sj ?_|refine .inl (sv ?_)|refine sv ?_|refine cl ?_|refine s3 ?_|refine az ?_|refine rm ?_|refine VBs.own ?_|fail)<;>(try conv=>whnf))
          all_goals exact VRd.mk rfl ⟨l.length - (i + 1), by omega, i + 1, b', Qj, rfl, rfl, by omega, rfl, hB', hf', hc', hl2⟩
  · have hok := for1_ok hf hc
    have hlen := hB.len
    have q5 := bfor_o b 1 (fun _ => 0) 64 hB (by omega) hok
    have q6 := rfor_a b 1 (fun _ => 0) 64 hB (by omega) hok
    have q7 := alike24_a ((forS b 1).2.take (64 : Int).toNat) (by rw [List.length_take]; have : (64 : Int).toNat = 64 := rfl; omega) (forS_SmB hB 1 (64 : Int).toNat)
    have n0 := nclear_n
    have n1 := first24_a
    have n2 := nadd_n
    have n3 := nfor_n
    have n4 := nheard_n
    have n5 := nhas_n
    have n6 := ncol_n
    have n7 := nlen_n
    have n8 := nseqs_n
    generalize (forS b 1).2.take (64 : Int).toNat = O at *
    generalize atMost (fun _ => 0) (forS b 1).1 = t at *
    cases t
    all_goals
      (try conv=>whnf)<;>repeat'((first|exact sNo|refine sT ?_|refine sF ?_|((first|refine sD ?_ ?_|refine sE ?_ ?_|refine sN ?_ ?_|refine sG ?_ ?_)<;>intro ht<;>(first|(cases ht;done)|skip))|refine wr ?_|refine ix ?_|refine ati ?_|refine row ?_|refine app ?_|refine dr ?_|refine VAnd.mk ?_ ?_|exact VJe.mk rfl ⟨rfl,rfl⟩|refine .inl (slM ?_)|refine .inl (slO ?_)|refine slM ?_|refine slO ?_|refine slN ?_|refine slS ?_|refine swB (swM fun C hC=>?_)|refine sj ?_|refine .inl (sv ?_)|refine sv ?_|refine cl ?_|refine s3 ?_|refine az ?_|refine rm ?_|refine VBs.own ?_|(refine co q5 ?_;rintro r h' ⟨rfl,rfl⟩)|refine cf q6 ?_|refine cg q6 ?_|refine cz q6 ?_|refine cf q7 ?_|refine cg q7 ?_|refine cz q7 ?_|refine cf n0 ?_|refine cg n0 ?_|refine cz n0 ?_|refine cf n1 ?_|refine cg n1 ?_|refine cz n1 ?_|refine cf n2 ?_|refine cg n2 ?_|refine cz n2 ?_|fail)<;>(try conv=>whnf))
      all_goals (try conv=>whnf)<;>repeat'((first|exact sNo|refine sT ?_|refine sF ?_|((first|refine sD ?_ ?_|refine sE ?_ ?_|refine sN ?_ ?_|refine sG ?_ ?_)<;>intro ht<;>(first|(cases ht;done)|skip))|refine wr ?_|refine ix ?_|refine ati ?_|refine row ?_|refine app ?_|refine dr ?_|refine VAnd.mk ?_ ?_|exact VJe.mk rfl ⟨rfl,rfl⟩|refine .inl (slM ?_)|refine .inl (slO ?_)|refine slM ?_|refine slO ?_|refine slN ?_|refine slS ?_|refine swB (swM fun C hC=>?_)|refine sj ?_|refine .inl (sv ?_)|refine sv ?_|refine cl ?_|refine s3 ?_|refine az ?_|refine rm ?_|refine VBs.own ?_|refine cf n3 ?_|refine cg n3 ?_|refine cz n3 ?_|refine cf n4 ?_|refine cg n4 ?_|refine cz n4 ?_|refine cf n5 ?_|refine cg n5 ?_|refine cz n5 ?_|refine cf n6 ?_|refine cg n6 ?_|refine cz n6 ?_|refine cf n7 ?_|refine cg n7 ?_|refine cz n7 ?_|refine cf n8 ?_|refine cg n8 ?_|refine cz n8 ?_|fail)<;>(try conv=>whnf))
      all_goals exact VRt.mk rfl ⟨rfl, _, rfl⟩
end Go.Proofs.YtlghgdgpbnlpmaaGreat
/- What is proved: the statement BufferOwn of chapter 24, for every input. Conditions: none. -/
namespace Go.Proofs.YtlghgdgpbnlpmaaGreat
open Go.RowKit Go.ChangeShapes Go.WideShapes Go.ChangeAt
set_option linter.unusedVariables false
set_option linter.unusedSimpArgs false
set_option maxRecDepth 100000

theorem bufferOwn_lifted (os : Os) (started : os.Started) (X : Type) (enc : TypeId × Value → X) :
    ReturnsInHanded {} Tryz.checked os 10 .any (Rows.bufferOwnSpec.pre6 enc Tryz.prog Tryz.f10 Rows.bufferOwnRow.domain false) (Rows.bufferOwnSpec.post enc Tryz.prog Tryz.f10 false true false false) := by
  refine returnsInHanded_of_change_sized (C := Tryz.checked) law_own started (by kernel_rfl) Tryz.func10
    (ChangeSpec.witness6 (enc := enc) (C := Tryz.checked) false ⟨#[], #[.slice none 0 0], []⟩ 8 (by kernel_rfl) (by kernel_rfl) (by kernel_rfl) (by kernel_rfl)) ?_
  intro W base args ds gs before hval0 hW hcnd hsz _
  refine contract_true (n := 1) law_laid rfl rfl (fun ds h => by match ds, h with | [_], _ => rfl) (by kernel_rfl) rfl Tryz.underlying4 hW ?_
  have hval : ∀ (j : Nat) t v, Tryz.f10.params[j]? = some t → args[j]? = some v → Value.okWide Tryz.prog W .any base t v := hval0
  clear hval0
  obtain ⟨p, q, hA0, -⟩ := hW
  have hA : DataW.TrodAll enc Tryz.prog W 0 (fun _ => true) true Tryz.f10.params.toList args.toList ds p := hA0
  clear hA0
  rw [Tryz.params10] at hA hval hsz
  have hsz' := List.all_eq_true.1 hsz
  obtain ⟨v0, d0, rfl, rfl, h0⟩ := trodAll_one hA
  have w0 : Wok 29 d0 := fun x hx => by have := hsz' x (by simp only [DataW.weightsEach, List.cons_append, List.nil_append, List.mem_append]; exact .inl hx); simpa using this
  obtain ⟨l, hl, hb⟩ := buns_arg (hval 0 _ _ rfl rfl) h0 w0
  exact ⟨[_], rfl, fnp_of (lawBOwn_a l hb) (VL1 hl)⟩
theorem bufferOwn_proved : Rows.BufferOwnSaid :=
  OpenClaim.holds_of_wide 10 Tryz.f10 rfl rfl rfl rfl rfl rfl rfl ⟨rfl, rfl, rfl, rfl, rfl⟩ rfl rfl rfl rfl rfl (by kernel_rfl) Tryz.func10 (by kernel_rfl)
    (of_decide_eq_true (by kernel_rfl)) (by unfold Func.isWrapper; first | (rw [if_pos (by decide +kernel)]; kernel_rfl) | (rw [if_neg (by decide +kernel)]; exact ⟨rfl, rfl⟩))
    (fun os started X enc _ => bufferOwn_lifted os started X enc)
end Go.Proofs.YtlghgdgpbnlpmaaGreat
