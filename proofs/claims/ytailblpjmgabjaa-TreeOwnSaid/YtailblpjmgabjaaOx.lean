/- What is proved: what Clone, Get, Only, Without and Wrap of package tree answer may be written full, and nothing else changes. Conditions: none. -/
import Derived.Test.YtailblpjmgabjaaOk
import Derived.Test.YtailblpjmgabjaaOj
import Derived.Test.YtailblpjmgabjaaTo
namespace Go.Proofs.Ytailblpjmgabjaa
open Go.RowKit
set_option linter.unusedVariables false
set_option linter.unusedSimpArgs false
set_option maxRecDepth 100000
set_option maxHeartbeats 16000000
/-! rows of nil slices -/
def NilD (D : RowD) : Prop := D.v = .slice none 0 0 ∧ D.rows = []
theorem NilD.noB {D : RowD} (h : NilD D) (b : Nat) : ¬ D.hasB b := by
  unfold RowD.hasB
  rw [h.1]
  intro e
  cases e
theorem NilD.holds {D : RowD} (h : NilD D) (w : World) : D.holds w := by
  unfold RowD.holds
  rw [h.1, h.2]
  exact ⟨⟨by simp, .inl ⟨rfl, rfl⟩⟩, fun x hx => by cases hx⟩
theorem NilD.bag {D : RowD} {Q : List RowD} (h : NilD D) (b : Nat) : (Piece.bag (D :: Q)).hasB b ↔ (Piece.bag Q).hasB b := by
  constructor
  · rintro ⟨x, hx, hb⟩
    rcases List.mem_cons.1 hx with rfl | hx
    · exact absurd hb (h.noB b)
    · exact ⟨x, hx, hb⟩
  · rintro ⟨x, hx, hb⟩
    exact ⟨x, List.mem_cons_of_mem _ hx, hb⟩
theorem ownB_nilrow {D : RowD} {Q : List RowD} (h : NilD D) : ownB [.bag (D :: Q)] = ownB [.bag Q] := by
  funext b
  refine propext ⟨fun ⟨p, hm, hb⟩ => ⟨_, List.mem_singleton.2 rfl, ?_⟩, fun ⟨p, hm, hb⟩ => ⟨_, List.mem_singleton.2 rfl, ?_⟩⟩
  · rw [List.mem_singleton] at hm
    subst hm
    exact (h.bag b).1 hb
  · rw [List.mem_singleton] at hm
    subst hm
    exact (h.bag b).2 hb
theorem Sees.bagNil {e : Ent} {H : Hp} {w : World} {D : RowD} {rs : List RowD} (hD : NilD D) (h : Sees e H [.bag rs] w) : Sees e H [.bag (D :: rs)] w := by
  have h2 := h.holds _ (List.mem_cons_self ..)
  have hb : ∀ p ∈ [Piece.bag (D :: rs)], ∀ b, p.hasB b → (Piece.bag rs).hasB b := fun p hm b hb => by
    rw [List.mem_singleton] at hm
    subst hm
    exact (hD.bag b).1 hb
  refine ⟨h.os, h.tape, h.output, h.size, h.keep, h.le0, h.le, h.new, fun p hm => ?_, fun p hm b hb' => h.apart _ (List.mem_cons_self ..) b (hb p hm b hb'), List.pairwise_singleton _ _, fun p hm b hb' => h.from_ _ (List.mem_cons_self ..) b (hb p hm b hb')⟩
  rw [List.mem_singleton] at hm
  subst hm
  refine ⟨fun x hx => ?_, List.pairwise_cons.2 ⟨fun x hx b hb1 _ => hD.noB b hb1, h2.2⟩⟩
  rcases List.mem_cons.1 hx with rfl | hx
  · exact hD.holds w
  · exact h2.1 x hx
theorem AFn.addNil {P : Program} {f : FuncId} {args : List AV} {D : RowD} {Q : List RowD} {R : AV → List AP → Prop} (hD : NilD D) (h : AFn P f args [.bag 0 (D :: Q)] R) : AFn P f args [.bag 0 Q] R := by
  intro E vs L hnx hvs hh
  simp only [VH, VP] at hh
  obtain ⟨_, _, rfl, ⟨h0, rfl⟩, rfl⟩ := hh
  obtain ⟨g1, g2⟩ := h E vs [.bag (D :: Q)] hnx hvs (by simp only [VH, VP]; exact ⟨_, _, rfl, ⟨h0, rfl⟩, rfl⟩)
  refine ⟨g1, fun w hs => ?_⟩
  have hs2 := hs.bagNil hD
  have e := ownB_nilrow (Q := Q) hD
  rw [← e] at hs2
  have g3 := g2 w hs2
  rw [e] at g3
  exact g3
theorem AFn.addNils {P : Program} {f : FuncId} {args : List AV} {Q : List RowD} {R : AV → List AP → Prop} : ∀ {N : List RowD}, (∀ D ∈ N, NilD D) → AFn P f args [.bag 0 (N ++ Q)] R → AFn P f args [.bag 0 Q] R
  | [], _, h => h
  | D :: N, hN, h => AFn.addNils (fun x hx => hN x (List.mem_cons_of_mem _ hx)) (AFn.addNil (hN D (List.mem_cons_self ..)) h)
/-- an answer that may be written full: what lay in the arena before lies there behind it -/
def ScrT (Ps : List RowD) (r : AV) (h' : List AP) : Prop := ∃ (a b : Sl3) (Q' : List RowD), r = .agg [sv3 a, sv3 b] ∧ h' = [.bag 0 Q'] ∧ AFn Try.prog 27 [.agg [sv3 a, sv3 b]] [.bag 0 Q'] (fun r h' => r = .tup [] ∧ ∃ Q1 G, h' = [.bag 0 Q1] ∧ Q1.Perm (G ++ Ps))
theorem AFn.post {P : Program} {f : FuncId} {args : List AV} {h : List AP} {R R' : AV → List AP → Prop} (ha : AFn P f args h R) (hR : ∀ r h', R r h' → R' r h') : AFn P f args h R' := by
  intro E vs L hnx hvs hh
  obtain ⟨h1, h2⟩ := ha E vs L hnx hvs hh
  refine ⟨h1, fun w hs => (h2 w hs).mono ?_⟩
  rintro x w' ⟨v, H', O, hx, hse, E', r, h', e, hE, hv, hh', hn, hr0⟩
  exact ⟨v, H', O, hx, hse, E', r, h', e, hE, hv, hh', hn, hR r h' hr0⟩
/-- trees with rows that lack where a slice is nil -/
def NilT (t : Tr8) (G Ps : List RowD) (a b : Sl3) (Q' : List RowD) : Prop := ∃ Q N, (N ++ Q').Perm (Q ++ (G ++ Ps)) ∧ OwnT t a b Q ∧ ∀ D ∈ N, NilD D
theorem scr_of {t : Tr8} {G Ps Q' : List RowD} {a b : Sl3} (hc : cntT t ≤ 1000000) (h : NilT t G Ps a b Q') : AFn Try.prog 27 [.agg [sv3 a, sv3 b]] [.bag 0 Q'] (fun r h' => r = .tup [] ∧ ∃ Q1 G, h' = [.bag 0 Q1] ∧ Q1.Perm (G ++ Ps)) := by
  obtain ⟨Q, N, hp, ho, hN⟩ := h
  refine AFn.addNils hN ?_
  refine (scribA (deepT t) t (Nat.le_refl _) hc a b Q (G ++ Ps) (N ++ Q') ho hp).post ?_
  rintro r h' ⟨h1, Q1, h2, h3⟩
  exact ⟨h1, Q1, G, h2, h3⟩
theorem AnsT.scr {t : Tr8} {Ps : List RowD} {r : AV} {h' : List AP} (hc : cntT t ≤ 1000000) (h : AnsT t Ps r h') : ScrT Ps r h' := by
  obtain ⟨a, b, Q, Q', rfl, rfl, hp, ho⟩ := h
  exact ⟨a, b, Q', rfl, rfl, scr_of (G := []) hc ⟨Q, [], hp, ho, fun D hD => by cases hD⟩⟩
/-! nothing -/
theorem scrib0 (a b : Option Addr) (c d : Nat) (Q : List RowD) : AFn Try.prog 27 [.agg [.sval a 0 c, .sval b 0 d]] [.bag 0 Q] (fun r h' => r = .tup [] ∧ h' = [.bag 0 Q]) := by
  refine afn_in ty_ok Try.call27 Try.func27 rfl rfl (by decide +kernel) ?_
  (try conv=>whnf)<;>repeat'((first|exact sNo|refine sT ?_|refine sF ?_|((first|refine sD ?_ ?_|refine sE ?_ ?_|refine sN ?_ ?_|refine sG ?_ ?_)<;>intro ht<;>(first|(cases ht;done)|skip))|refine wr ?_|refine ix ?_|refine ati ?_|refine row ?_|refine app ?_|refine dr ?_|refine VAnd.mk ?_ ?_|exact VJe.mk rfl ⟨rfl,rfl⟩|refine .inl (slM ?_)|refine .inl (slO ?_)|refine slM ?_|refine slO ?_|refine slN ?_|refine slS ?_|refine swB (swM fun C hC=>?_)|refine sj ?_|refine .inl (sv ?_)|refine sv ?_|refine cl ?_|refine s3 ?_|refine az ?_|refine rm ?_|refine VBs.own ?_|fail)<;>(try conv=>whnf))
  refine VLp.mk ⟨[], [1], [7], fun k vs h => vs = [i64 0] ∧ h = [.bag 0 Q, .blk 1 [.sval a 0 c, .sval b 0 d] 25], 0, ?_⟩
  conv => whnf
  refine ⟨⟨rfl, rfl⟩, ?_⟩
  rintro k vs h ⟨rfl, rfl⟩
  (try conv=>whnf)<;>repeat'((first|exact sNo|refine sT ?_|refine sF ?_|((first|refine sD ?_ ?_|refine sE ?_ ?_|refine sN ?_ ?_|refine sG ?_ ?_)<;>intro ht<;>(first|(cases ht;done)|skip))|refine wr ?_|refine ix ?_|refine ati ?_|refine row ?_|refine app ?_|refine dr ?_|refine VAnd.mk ?_ ?_|exact VJe.mk rfl ⟨rfl,rfl⟩|refine .inl (slM ?_)|refine .inl (slO ?_)|refine slM ?_|refine slO ?_|refine slN ?_|refine slS ?_|refine swB (swM fun C hC=>?_)|refine sj ?_|refine .inl (sv ?_)|refine sv ?_|refine cl ?_|refine s3 ?_|refine az ?_|refine rm ?_|refine VBs.own ?_|fail)<;>(try conv=>whnf))
  refine VLp.mk ⟨[], [1], [19], fun k vs h => vs = [i64 0] ∧ h = [.bag 0 Q, .blk 1 [.sval a 0 c, .sval b 0 d] 25], 0, ?_⟩
  conv => whnf
  refine ⟨⟨rfl, rfl⟩, ?_⟩
  rintro k vs h ⟨rfl, rfl⟩
  (try conv=>whnf)<;>repeat'((first|exact sNo|refine sT ?_|refine sF ?_|((first|refine sD ?_ ?_|refine sE ?_ ?_|refine sN ?_ ?_|refine sG ?_ ?_)<;>intro ht<;>(first|(cases ht;done)|skip))|refine wr ?_|refine ix ?_|refine ati ?_|refine row ?_|refine app ?_|refine dr ?_|refine VAnd.mk ?_ ?_|exact VJe.mk rfl ⟨rfl,rfl⟩|refine .inl (slM ?_)|refine .inl (slO ?_)|refine slM ?_|refine slO ?_|refine slN ?_|refine slS ?_|refine swB (swM fun C hC=>?_)|refine sj ?_|refine .inl (sv ?_)|refine sv ?_|refine cl ?_|refine s3 ?_|refine az ?_|refine rm ?_|refine VBs.own ?_|fail)<;>(try conv=>whnf))
  all_goals exact VRt.mk rfl ⟨rfl, rfl⟩
theorem AFnP.scr0 {f : FuncId} {args : List AV} {Ps : List RowD} (h : AFnP Try.prog f args (.agg [.lst 0 [], .lst 0 []])) (hA : ∀ (E : Env) vs, VL E args vs → VFL E.H args vs := by intro E vs hv; simp only [VL, V] at hv ⊢; exact hv) : AFn Try.prog f args [.bag 0 Ps] (ScrT Ps) := by
  intro E vs L hnx hvs hh
  have hh0 := hh
  simp only [VH, VP] at hh
  obtain ⟨_, _, rfl, ⟨h0, rfl⟩, rfl⟩ := hh
  have hv0 := hA E vs hvs
  refine ⟨(h E.H vs hv0).1, fun w hs => ((h (hp w) vs (hv0.mono ⟨hs.le, Nat.le_refl _, fun _ _ => rfl, fun _ _ => rfl⟩)).2 w (Sees.enterB w)).mono ?_⟩
  rintro x w' ⟨v, H', O, hx, hse, hv⟩
  have h3 := (hs.leaveB hse).sub (List.sublist_append_right O _)
  simp only [V, VL] at hv
  obtain ⟨us, rfl, _, _, rfl, ⟨a, c, _, rfl, _⟩, _, _, rfl, ⟨b, d, _, rfl, _⟩, rfl⟩ := hv
  refine ⟨_, E.H, _, hx, h3, E, .agg [.sval a 0 c, .sval b 0 d], [.bag 0 Ps], rfl, Env.le.refl E, ?_, hh0, by rw [hnx]; rfl, (a, 0, c), (b, 0, d), Ps, rfl, rfl, (scrib0 a b c d Ps).post ?_⟩
  · simp only [V, VL]
    exact ⟨_, rfl, _, _, rfl, rfl, _, _, rfl, rfl, rfl⟩
  · rintro r h' ⟨h1, h2⟩
    exact ⟨h1, Ps, [], h2, List.Perm.refl _⟩
/-- the same beside an error -/
def ScrW (Ps : List RowD) (r : AV) (h' : List AP) : Prop := ∃ r0 e, r = .tup [r0, i64 e] ∧ ScrT Ps r0 h'
theorem AFnP.scr0w {f : FuncId} {args : List AV} {Ps : List RowD} {n : Int} (h : AFnP Try.prog f args (wrapBadE n)) (hA : ∀ (E : Env) vs, VL E args vs → VFL E.H args vs := by intro E vs hv; simp only [VL, V] at hv ⊢; exact hv) : AFn Try.prog f args [.bag 0 Ps] (ScrW Ps) := by
  intro E vs L hnx hvs hh
  have hh0 := hh
  simp only [VH, VP] at hh
  obtain ⟨_, _, rfl, ⟨h0, rfl⟩, rfl⟩ := hh
  have hv0 := hA E vs hvs
  refine ⟨(h E.H vs hv0).1, fun w hs => ((h (hp w) vs (hv0.mono ⟨hs.le, Nat.le_refl _, fun _ _ => rfl, fun _ _ => rfl⟩)).2 w (Sees.enterB w)).mono ?_⟩
  rintro x w' ⟨v, H', O, hx, hse, hv⟩
  have h3 := (hs.leaveB hse).sub (List.sublist_append_right O _)
  simp only [wrapBadE, V, VL] at hv
  obtain ⟨us, rfl, _, _, rfl, ⟨us', rfl, _, _, rfl, ⟨a, c, _, rfl, _⟩, _, _, rfl, ⟨b, d, _, rfl, _⟩, rfl⟩, _, _, rfl, rfl, rfl⟩ := hv
  refine ⟨_, E.H, _, hx, h3, E, .tup [.agg [.sval a 0 c, .sval b 0 d], i64 n], [.bag 0 Ps], rfl, Env.le.refl E, ?_, hh0, by rw [hnx]; rfl, _, n, rfl, (a, 0, c), (b, 0, d), Ps, rfl, rfl, (scrib0 a b c d Ps).post ?_⟩
  · simp only [V, VL]
    exact ⟨_, rfl, _, _, rfl, ⟨_, rfl, _, _, rfl, rfl, _, _, rfl, rfl, rfl⟩, _, _, rfl, rfl, rfl⟩
  · rintro r h' ⟨h1, h2⟩
    exact ⟨h1, Ps, [], h2, List.Perm.refl _⟩
theorem only_f' (t : Tr8) (keys : List ByteArray) (hr : rightT 5 t = false) (hc : cntT t ≤ 1000000) : AFnP Try.prog 28 [.agg [lstE entE t.es, lstE kidRow t.ks], lstE strE keys] (.agg [.lst 0 [], .lst 0 []]) := by
  have r1 := tright_a t hc
  rw [hr] at r1
  refine afnp_in ty_ok Try.call28 Try.func28 rfl rfl (by decide +kernel) ?_
  (try conv=>whnf)<;>repeat'((first|exact sNo|refine sT ?_|refine sF ?_|((first|refine sD ?_ ?_|refine sE ?_ ?_|refine sN ?_ ?_|refine sG ?_ ?_)<;>intro ht<;>(first|(cases ht;done)|skip))|refine wr ?_|refine ix ?_|refine ati ?_|refine row ?_|refine app ?_|refine dr ?_|refine VAnd.mk ?_ ?_|exact VJe.mk rfl ⟨rfl,rfl⟩|refine .inl (slM ?_)|refine .inl (slO ?_)|refine slM ?_|refine slO ?_|refine slN ?_|refine slS ?_|refine swB (swM fun C hC=>?_)|refine sj ?_|refine .inl (sv ?_)|refine sv ?_|refine cl ?_|refine s3 ?_|refine az ?_|refine rm ?_|refine VBs.own ?_|refine cf r1 ?_|refine cg r1 ?_|refine cz r1 ?_|fail)<;>(try conv=>whnf))
  all_goals rfl
theorem without_f' (t : Tr8) (keys : List ByteArray) (hr : rightT 5 t = false) (hc : cntT t ≤ 1000000) : AFnP Try.prog 29 [.agg [lstE entE t.es, lstE kidRow t.ks], lstE strE keys] (.agg [.lst 0 [], .lst 0 []]) := by
  have r1 := tright_a t hc
  rw [hr] at r1
  refine afnp_in ty_ok Try.call29 Try.func29 rfl rfl (by decide +kernel) ?_
  (try conv=>whnf)<;>repeat'((first|exact sNo|refine sT ?_|refine sF ?_|((first|refine sD ?_ ?_|refine sE ?_ ?_|refine sN ?_ ?_|refine sG ?_ ?_)<;>intro ht<;>(first|(cases ht;done)|skip))|refine wr ?_|refine ix ?_|refine ati ?_|refine row ?_|refine app ?_|refine dr ?_|refine VAnd.mk ?_ ?_|exact VJe.mk rfl ⟨rfl,rfl⟩|refine .inl (slM ?_)|refine .inl (slO ?_)|refine slM ?_|refine slO ?_|refine slN ?_|refine slS ?_|refine swB (swM fun C hC=>?_)|refine sj ?_|refine .inl (sv ?_)|refine sv ?_|refine cl ?_|refine s3 ?_|refine az ?_|refine rm ?_|refine VBs.own ?_|refine cf r1 ?_|refine cg r1 ?_|refine cz r1 ?_|fail)<;>(try conv=>whnf))
  all_goals rfl
/-! the functions -/
theorem Clone_s (t : Tr8) (hc : cntT t ≤ 1000000) (Ps : List RowD) : AFn Try.prog 24 [.agg [lstE entE t.es, lstE kidRow t.ks]] [.bag 0 Ps] (ScrT Ps) := by
  cases hr : rightT 5 t
  · exact (tclone_f t hr hc).scr0
  · refine AFn.post ?_ (fun r h' h => AnsT.scr hc h)
    have r1 := tright_a t hc
    rw [hr] at r1
    have r2 := cloneA 5 t hr hc Ps
    rw [kidRow_fun] at r1 r2 ⊢
    refine afn_in ty_ok Try.call24 Try.func24 rfl rfl (by decide +kernel) ?_
    (try conv=>whnf)<;>repeat'((first|exact sNo|refine sT ?_|refine sF ?_|((first|refine sD ?_ ?_|refine sE ?_ ?_|refine sN ?_ ?_|refine sG ?_ ?_)<;>intro ht<;>(first|(cases ht;done)|skip))|refine wr ?_|refine ix ?_|refine ati ?_|refine row ?_|refine app ?_|refine dr ?_|refine VAnd.mk ?_ ?_|exact VJe.mk rfl ⟨rfl,rfl⟩|refine .inl (slM ?_)|refine .inl (slO ?_)|refine slM ?_|refine slO ?_|refine slN ?_|refine slS ?_|refine swB (swM fun C hC=>?_)|refine sj ?_|refine .inl (sv ?_)|refine sv ?_|refine cl ?_|refine s3 ?_|refine az ?_|refine rm ?_|refine VBs.own ?_|refine cf r1 ?_|refine cg r1 ?_|refine cz r1 ?_|(refine ca r2 ?_;rintro r h' ⟨a,b,Q,Q',rfl,rfl,hp,ho⟩)|fail)<;>(try conv=>whnf))
    all_goals exact VRt.mk rfl ⟨a, b, Q, Q', rfl, rfl, hp, ho⟩
theorem Get_s (t : Tr8) (path : List ByteArray) (hc : cntT t ≤ 1000000) (hn : path.length ≤ 1000000) (Ps : List RowD) : AFn Try.prog 14 [.agg [lstE entE t.es, lstE kidRow t.ks], lstE strE path] [.bag 0 Ps] (ScrT Ps) := by
  cases hr : rightT 5 t
  · exact (get_f t path hr hc).scr0
  cases hG : getT t path with
  | none =>
    have r := get_t t path hr hc hn
    rw [hG] at r
    exact r.scr0
  | some g =>
    refine AFn.post (R := fun r h' => cntT g ≤ 1000000 ∧ AnsT g Ps r h') ?_ (fun r h' h => AnsT.scr h.1 h.2)
    have r1 := tright_a t hc
    rw [hr] at r1
    rw [kidRow_fun] at r1 ⊢
    refine afn_in ty_ok Try.call14 Try.func14 rfl rfl (by decide +kernel) ?_
    (try conv=>whnf)<;>repeat'((first|exact sNo|refine sT ?_|refine sF ?_|((first|refine sD ?_ ?_|refine sE ?_ ?_|refine sN ?_ ?_|refine sG ?_ ?_)<;>intro ht<;>(first|(cases ht;done)|skip))|refine wr ?_|refine ix ?_|refine ati ?_|refine row ?_|refine app ?_|refine dr ?_|refine VAnd.mk ?_ ?_|exact VJe.mk rfl ⟨rfl,rfl⟩|refine .inl (slM ?_)|refine .inl (slO ?_)|refine slM ?_|refine slO ?_|refine slN ?_|refine slS ?_|refine swB (swM fun C hC=>?_)|refine sj ?_|refine .inl (sv ?_)|refine sv ?_|refine cl ?_|refine s3 ?_|refine az ?_|refine rm ?_|refine VBs.own ?_|refine cf r1 ?_|refine cg r1 ?_|refine cz r1 ?_|fail)<;>(try conv=>whnf))
    refine VLp.mk ⟨[], [], [2, 4, 14], fun k vs h => ∃ (i : Nat) (c : Tr8) (d : Nat), vs = [.op 1 0, .op 2 0, i64 i] ∧ h = [.bag 0 Ps, .blk 1 [lstE entE c.es, lstE kidE c.ks] 25, .blk 2 [.nils, .nils] 25] ∧ i ≤ path.length ∧ k = path.length - i ∧ getT t (path.take i) = some c ∧ rightT d c = true ∧ cntT c ≤ 1000000, path.length, ?_⟩
    conv => whnf
    refine ⟨⟨0, t, 5, rfl, rfl, by omega, by omega, rfl, hr, hc⟩, ?_⟩
    rintro k vs h ⟨i, c, d, rfl, rfl, hi, rfl, hg, hrc, hcc⟩
    have hcnt := cntT_eq c
    by_cases hin : i < path.length
    · have e := getT_take hin hg
      have r2 := indexKid_a c.ks (by omega) (g := 37) (cs := [.str path[i]]) (fun x => eqKey x.1 path[i]) (fun x => get1_a x path[i])
      unfold stepT at e
      cases hf : c.ks.findIdx? (fun x => eqKey x.1 path[i]) with
      | none =>
        rw [hf] at e
        have hno := getT_none (show i + 1 ≤ path.length by omega) e
        rw [hG] at hno
        cases hno
      | some m =>
        rw [hf] at e
        have h1 : idxI (fun x => eqKey x.1 path[i]) c.ks = (m : Int) := by unfold idxI; rw [hf]
        have hm : m < c.ks.length := (List.findIdx?_eq_some_iff_getElem.1 hf).1
        rw [h1] at r2
        have e : getT t (path.take (i + 1)) = some c.ks[m].2 := by rw [e]; show Option.map (fun x => x.2) c.ks[m]? = _; rw [List.getElem?_eq_getElem hm]; rfl
        obtain ⟨d0, rfl⟩ : ∃ d0, d = d0 + 1 := by cases d with | zero => cases hrc | succ d0 => exact ⟨d0, rfl⟩
        have hx := cntK_mem (List.getElem_mem hm)
        (try conv=>whnf)<;>repeat'((first|exact sNo|refine sT ?_|refine sF ?_|((first|refine sD ?_ ?_|refine sE ?_ ?_|refine sN ?_ ?_|refine sG ?_ ?_)<;>intro ht<;>(first|(cases ht;done)|skip))|refine wr ?_|refine ix ?_|refine ati ?_|refine row ?_|refine app ?_|refine dr ?_|refine VAnd.mk ?_ ?_|exact VJe.mk rfl ⟨rfl,rfl⟩|refine .inl (slM ?_)|refine .inl (slO ?_)|refine slM ?_|refine slO ?_|refine slN ?_|refine slS ?_|refine swB (swM fun C hC=>?_)|refine sj ?_|refine .inl (sv ?_)|refine sv ?_|refine cl ?_|refine s3 ?_|refine az ?_|refine rm ?_|refine VBs.own ?_|refine cf r2 ?_|refine cg r2 ?_|refine cz r2 ?_|fail)<;>(try conv=>whnf))
        all_goals exact VRd.mk rfl ⟨path.length - (i + 1), by omega, i + 1, c.ks[m].2, d0, rfl, by rw [← kidRow_fun], by omega, rfl, e, rightT_child hrc hm, by omega⟩
    · obtain rfl : i = path.length := by omega
      rw [List.take_length, hG] at hg
      cases hg
      have r3 := cloneA d g hrc hcc Ps
      rw [kidRow_fun] at r3
      (try conv=>whnf)<;>repeat'((first|exact sNo|refine sT ?_|refine sF ?_|((first|refine sD ?_ ?_|refine sE ?_ ?_|refine sN ?_ ?_|refine sG ?_ ?_)<;>intro ht<;>(first|(cases ht;done)|skip))|refine wr ?_|refine ix ?_|refine ati ?_|refine row ?_|refine app ?_|refine dr ?_|refine VAnd.mk ?_ ?_|exact VJe.mk rfl ⟨rfl,rfl⟩|refine .inl (slM ?_)|refine .inl (slO ?_)|refine slM ?_|refine slO ?_|refine slN ?_|refine slS ?_|refine swB (swM fun C hC=>?_)|refine sj ?_|refine .inl (sv ?_)|refine sv ?_|refine cl ?_|refine s3 ?_|refine az ?_|refine rm ?_|refine VBs.own ?_|(refine ca r3 ?_;rintro r h' ⟨a,b,Q,Q',rfl,rfl,hp,ho⟩)|fail)<;>(try conv=>whnf))
      all_goals exact VRt.mk rfl ⟨hcc, a, b, Q, Q', rfl, rfl, hp, ho⟩
/-! Only and Without -/
theorem OwnK_filter {p : ByteArray → Bool} : ∀ {ks : List (ByteArray × Tr8)} {xs : List Kd3} {Q : List RowD}, OwnK ks xs Q → ∃ Qa Qb, Q.Perm (Qa ++ Qb) ∧ OwnK (ks.filter fun x => p x.1) (xs.filter fun x => p x.1) Qa
  | [], xs, Q, h => by
    rw [OwnK] at h
    obtain ⟨rfl, rfl⟩ := h
    exact ⟨[], [], List.Perm.refl _, by simp [OwnK]⟩
  | x :: ks, xs, Q, h => by
    rw [OwnK_cons] at h
    obtain ⟨e, k, xs', Q1, Q2, rfl, rfl, h1, h2⟩ := h
    obtain ⟨Qa, Qb, hp, ho⟩ := OwnK_filter (p := p) h2
    cases hx : p x.1
    · refine ⟨Qa, Q1 ++ Qb, ?_, ?_⟩
      · refine (hp.append_left Q1).trans ?_
        rw [← List.append_assoc, ← List.append_assoc]
        exact List.perm_append_comm.append_right _
      · rw [List.filter_cons, List.filter_cons]
        dsimp only
        rw [hx]
        exact ho
    · refine ⟨Q1 ++ Qa, Qb, ?_, ?_⟩
      · rw [List.append_assoc]
        exact hp.append_left Q1
      · rw [List.filter_cons, List.filter_cons]
        dsimp only
        rw [hx]
        simp only [if_true]
        rw [OwnK_cons]
        exact ⟨e, k, _, Q1, Qa, rfl, rfl, h1, ho⟩
theorem cntK_filter {p : (ByteArray × Tr8) → Bool} : ∀ {ks : List (ByteArray × Tr8)}, cntK (ks.filter p) ≤ cntK ks ∧ (ks.filter p).length ≤ ks.length
  | [] => ⟨Nat.le_refl _, Nat.le_refl _⟩
  | x :: ks => by
    obtain ⟨h1, h2⟩ := cntK_filter (p := p) (ks := ks)
    rw [List.filter_cons]
    split
    · rw [cntK, cntK, List.length_cons, List.length_cons]
      omega
    · rw [cntK, List.length_cons]
      omega
/-- one own row goes into the arena, behind a nil slice -/
theorem AFn.only {P : Program} {f : FuncId} {args : List AV} {Ps : List RowD} {R : AV → List AP → Prop} (ha : AFn P f args [.bag 0 Ps] (fun r h' => ∃ (xs : List Kd3) (Q' : List RowD), r = .agg [.nils, .own 1 xs.length] ∧ h' = [.bag 0 Q', .row 1 56 3 (xs.map kdE)] ∧ ∀ (b : Sl3) (D : RowD), KidD xs b D → R (.agg [sv3 (none, 0, 0), sv3 b]) [.bag 0 (D :: Q')])) : AFn P f args [.bag 0 Ps] R := by
  have h1 : AFn P f args [.bag 0 Ps] (fun r h' => ∃ b, r = .agg [.nils, sv3 b] ∧ R (.agg [sv3 (none, 0, 0), sv3 b]) h') := by
    refine ha.into1 ?_
    rintro r h' ⟨xs, Q', rfl, rfl, hR⟩
    refine ⟨[.nils], [.slice none 0 0], Q', _, _, xs.map kdE, rfl, by rw [List.length_map] <;> rfl, rfl, fun E a1 c1 rs1 g1 => ?_⟩
    have e1 := VLL_flat (f := kdE) (g := kdV) (fun _ => rfl) g1
    exact ⟨(a1, _, c1), rfl, hR _ _ ⟨rfl, rfl, rfl, e1, List.length_map ..⟩⟩
  intro E vs L hnx hvs hh
  obtain ⟨g1, g2⟩ := h1 E vs L hnx hvs hh
  refine ⟨g1, fun w hs => (g2 w hs).mono ?_⟩
  rintro x w' ⟨v, H', O, hx, hse, E', r, h', e, hE, hv, hh', hn, b, rfl, hr0⟩
  refine ⟨v, H', O, hx, hse, E', _, h', e, hE, ?_, hh', hn, hr0⟩
  simp only [V, VL] at hv ⊢
  exact hv
theorem Only_s (t : Tr8) (keys : List ByteArray) (hc : cntT t ≤ 1000000) (hn : keys.length ≤ 1000000) (Ps : List RowD) : AFn Try.prog 28 [.agg [lstE entE t.es, lstE kidRow t.ks], lstE strE keys] [.bag 0 Ps] (ScrT Ps) := by
  cases hr : rightT 5 t
  · exact (only_f' t keys hr hc).scr0
  have r1 := tright_a t hc
  rw [hr] at r1
  have r2 := cloneO (d := 4) t hr hc Ps
  have hcnt := cntT_eq t
  have r3 := fun (xs : List Kd3) (hx : xs.length = t.ks.length) => deleteKid_d xs (by omega) (g := 53) (keys := keys) (fun x => !inK keys x.1) (fun x => only1_d x keys hn)
  rw [kidRow_fun] at r1 r2 ⊢
  refine AFn.only ?_
  refine afn_in ty_ok Try.call28 Try.func28 rfl rfl (by decide +kernel) ?_
  have hend : ∀ (xs : List Kd3) (Q Q' : List RowD), Q'.Perm (Q ++ Ps) → OwnK t.ks xs Q → ∀ (b : Sl3) (D : RowD), KidD (keepD (fun x => !inK keys x.1) xs) b D → ScrT Ps (.agg [sv3 (none, 0, 0), sv3 b]) [.bag 0 (D :: Q')] := fun xs Q Q' hp ho b D hD => by
    obtain ⟨Qa, Qb, hp2, ho2⟩ := OwnK_filter (p := fun k => inK keys k) ho
    obtain ⟨c1, c2⟩ := cntK_filter (p := fun x => inK keys x.1) (ks := t.ks)
    have e : keepD (fun x => !inK keys x.1) xs = xs.filter fun x => inK keys x.1 := by unfold keepD; simp
    rw [e] at hD
    refine ⟨(none, 0, 0), b, _, rfl, rfl, scr_of (t := .mk [] (t.ks.filter fun x => inK keys x.1)) (G := Qb) (by rw [cntT]; simp only [List.length_nil]; omega) ⟨⟨.slice none 0 0, 63, 4, []⟩ :: D :: Qa, [⟨.slice none 0 0, 63, 4, []⟩], ?_, ?_, ?_⟩⟩
    · refine List.Perm.cons _ (List.Perm.cons _ ?_)
      show Q'.Perm (Qa ++ (Qb ++ Ps))
      rw [← List.append_assoc]
      exact hp.trans (hp2.append_right _)
    · rw [OwnT_iff]
      exact ⟨_, D, _, Qa, rfl, ⟨rfl, rfl, rfl, rfl, rfl⟩, hD, ho2⟩
    · intro D hD
      rw [List.mem_singleton] at hD
      subst hD
      exact ⟨rfl, rfl⟩
  (try conv=>whnf)<;>repeat'((first|exact sNo|refine sT ?_|refine sF ?_|((first|refine sD ?_ ?_|refine sE ?_ ?_|refine sN ?_ ?_|refine sG ?_ ?_)<;>intro ht<;>(first|(cases ht;done)|skip))|refine wr ?_|refine ix ?_|refine ati ?_|refine row ?_|refine app ?_|refine dr ?_|refine VAnd.mk ?_ ?_|exact VJe.mk rfl ⟨rfl,rfl⟩|refine .inl (slM ?_)|refine .inl (slO ?_)|refine slM ?_|refine slO ?_|refine slN ?_|refine slS ?_|refine swB (swM fun C hC=>?_)|refine sj ?_|refine .inl (sv ?_)|refine sv ?_|refine cl ?_|refine s3 ?_|refine az ?_|refine rm ?_|refine VBs.own ?_|refine cf r1 ?_|refine cg r1 ?_|refine cz r1 ?_|(refine ca r2 ?_;rintro r h' ⟨xs,Q,Q',rfl,rfl,hp,ho,hx⟩;rw [← hx])|(refine co (r3 xs hx) ?_;rintro r h' (⟨rfl,rfl⟩|⟨rfl,rfl⟩))|fail)<;>(try conv=>whnf))
  all_goals exact VRt.mk rfl ⟨_, Q', rfl, rfl, hend xs Q Q' hp ho⟩
theorem Without_s (t : Tr8) (keys : List ByteArray) (hc : cntT t ≤ 1000000) (hn : keys.length ≤ 1000000) (Ps : List RowD) : AFn Try.prog 29 [.agg [lstE entE t.es, lstE kidRow t.ks], lstE strE keys] [.bag 0 Ps] (ScrT Ps) := by
  cases hr : rightT 5 t
  · exact (without_f' t keys hr hc).scr0
  have r1 := tright_a t hc
  rw [hr] at r1
  have r2 := cloneO (d := 4) t hr hc Ps
  have hcnt := cntT_eq t
  have r3 := fun (xs : List Kd3) (hx : xs.length = t.ks.length) => deleteKid_d xs (by omega) (g := 55) (keys := keys) (fun x => inK keys x.1) (fun x => without1_d x keys hn)
  rw [kidRow_fun] at r1 r2 ⊢
  have hend : ∀ (xs : List Kd3) (Q Q' : List RowD), Q'.Perm (Q ++ Ps) → OwnK t.ks xs Q → ∀ (a b : Sl3) (D1 D2 : RowD), EntD t.es a D1 → KidD (keepD (fun x => inK keys x.1) xs) b D2 → ScrT Ps (.agg [sv3 a, sv3 b]) [.bag 0 (D1 :: D2 :: Q')] := fun xs Q Q' hp ho a b D1 D2 hD1 hD => by
    obtain ⟨Qa, Qb, hp2, ho2⟩ := OwnK_filter (p := fun k => !inK keys k) ho
    obtain ⟨c1, c2⟩ := cntK_filter (p := fun x => !inK keys x.1) (ks := t.ks)
    refine ⟨a, b, _, rfl, rfl, scr_of (t := .mk t.es (t.ks.filter fun x => !inK keys x.1)) (G := Qb) (by rw [cntT]; omega) ⟨D1 :: D2 :: Qa, [], ?_, ?_, fun D hD => by cases hD⟩⟩
    · refine List.Perm.cons _ (List.Perm.cons _ ?_)
      show Q'.Perm (Qa ++ (Qb ++ Ps))
      rw [← List.append_assoc]
      exact hp.trans (hp2.append_right _)
    · rw [OwnT_iff]
      exact ⟨D1, D2, _, Qa, rfl, hD1, hD, ho2⟩
  have ha : AFn Try.prog 29 [.agg [lstE entE t.es, lstE kidE t.ks], lstE strE keys] [.bag 0 Ps] (fun r h' => ∃ (xs : List Kd3) (Q Q' : List RowD), r = .agg [.own 1 t.es.length, .own 2 (keepD (fun x => inK keys x.1) xs).length] ∧ h' = [.bag 0 Q', .row 1 63 4 (t.es.map entE), .row 2 56 3 ((keepD (fun x => inK keys x.1) xs).map kdE)] ∧ Q'.Perm (Q ++ Ps) ∧ OwnK t.ks xs Q) := by
    refine afn_in ty_ok Try.call29 Try.func29 rfl rfl (by decide +kernel) ?_
    (try conv=>whnf)<;>repeat'((first|exact sNo|refine sT ?_|refine sF ?_|((first|refine sD ?_ ?_|refine sE ?_ ?_|refine sN ?_ ?_|refine sG ?_ ?_)<;>intro ht<;>(first|(cases ht;done)|skip))|refine wr ?_|refine ix ?_|refine ati ?_|refine row ?_|refine app ?_|refine dr ?_|refine VAnd.mk ?_ ?_|exact VJe.mk rfl ⟨rfl,rfl⟩|refine .inl (slM ?_)|refine .inl (slO ?_)|refine slM ?_|refine slO ?_|refine slN ?_|refine slS ?_|refine swB (swM fun C hC=>?_)|refine sj ?_|refine .inl (sv ?_)|refine sv ?_|refine cl ?_|refine s3 ?_|refine az ?_|refine rm ?_|refine VBs.own ?_|refine cf r1 ?_|refine cg r1 ?_|refine cz r1 ?_|(refine ca r2 ?_;rintro r h' ⟨xs,Q,Q',rfl,rfl,hp,ho,hx⟩;rw [← hx])|(refine co (r3 xs hx) ?_;rintro r h' (⟨rfl,rfl⟩|⟨rfl,rfl⟩))|fail)<;>(try conv=>whnf))
    all_goals exact VRt.mk rfl ⟨xs, Q, Q', rfl, rfl, hp, ho⟩
  refine ha.into ?_
  rintro r h' ⟨xs, Q, Q', rfl, rfl, hp, ho⟩
  refine ⟨Q', _, _, t.es.map entE, _, _, (keepD (fun x => inK keys x.1) xs).map kdE, by rw [List.length_map, List.length_map], rfl, fun E a1 c1 a2 c2 rs1 rs2 g1 g2 => ?_⟩
  have e1 := VLL_flat (f := entE) (g := entV) (fun _ => rfl) g1
  have e2 := VLL_flat (f := kdE) (g := kdV) (fun _ => rfl) g2
  exact hend xs Q Q' hp ho (a1, _, c1) (a2, _, c2) _ _ ⟨rfl, rfl, rfl, e1, List.length_map ..⟩ ⟨rfl, rfl, rfl, e2, List.length_map ..⟩
/-! Wrap -/
theorem emptyV_a (a b : Sl3) (t : Bool) (h : (decide (a.2.1 = 0) && decide (b.2.1 = 0)) = t) : AFnP Try.prog 16 [.agg [sv3 a, sv3 b]] (.bool t) := by
  subst h
  refine afnp_in ty_ok Try.call16 Try.func16 rfl rfl (by decide +kernel) ?_
  by_cases h1 : a.2.1 = 0
  · by_cases h2 : b.2.1 = 0
    · (try conv=>whnf)<;>repeat'((first|exact sNo|refine sT ?_|refine sF ?_|((first|refine sD ?_ ?_|refine sE ?_ ?_|refine sN ?_ ?_|refine sG ?_ ?_)<;>intro ht<;>(first|(cases ht;done)|skip))|refine wr ?_|refine ix ?_|refine ati ?_|refine row ?_|refine app ?_|refine dr ?_|refine VAnd.mk ?_ ?_|exact VJe.mk rfl ⟨rfl,rfl⟩|refine .inl (slM ?_)|refine .inl (slO ?_)|refine slM ?_|refine slO ?_|refine slN ?_|refine slS ?_|refine swB (swM fun C hC=>?_)|refine sj ?_|refine .inl (sv ?_)|refine sv ?_|refine cl ?_|refine s3 ?_|refine az ?_|refine rm ?_|refine VBs.own ?_|fail)<;>(try conv=>whnf))
      all_goals (refine congrArg AV.bool ?_; rw [decide_eq_true h1, decide_eq_true h2]; rfl)
    · (try conv=>whnf)<;>repeat'((first|exact sNo|refine sT ?_|refine sF ?_|((first|refine sD ?_ ?_|refine sE ?_ ?_|refine sN ?_ ?_|refine sG ?_ ?_)<;>intro ht<;>(first|(cases ht;done)|skip))|refine wr ?_|refine ix ?_|refine ati ?_|refine row ?_|refine app ?_|refine dr ?_|refine VAnd.mk ?_ ?_|exact VJe.mk rfl ⟨rfl,rfl⟩|refine .inl (slM ?_)|refine .inl (slO ?_)|refine slM ?_|refine slO ?_|refine slN ?_|refine slS ?_|refine swB (swM fun C hC=>?_)|refine sj ?_|refine .inl (sv ?_)|refine sv ?_|refine cl ?_|refine s3 ?_|refine az ?_|refine rm ?_|refine VBs.own ?_|fail)<;>(try conv=>whnf))
      all_goals (refine congrArg AV.bool ?_; rw [decide_eq_true h1, decide_eq_false h2]; rfl)
  · (try conv=>whnf)<;>repeat'((first|exact sNo|refine sT ?_|refine sF ?_|((first|refine sD ?_ ?_|refine sE ?_ ?_|refine sN ?_ ?_|refine sG ?_ ?_)<;>intro ht<;>(first|(cases ht;done)|skip))|refine wr ?_|refine ix ?_|refine ati ?_|refine row ?_|refine app ?_|refine dr ?_|refine VAnd.mk ?_ ?_|exact VJe.mk rfl ⟨rfl,rfl⟩|refine .inl (slM ?_)|refine .inl (slO ?_)|refine slM ?_|refine slO ?_|refine slN ?_|refine slS ?_|refine swB (swM fun C hC=>?_)|refine sj ?_|refine .inl (sv ?_)|refine sv ?_|refine cl ?_|refine s3 ?_|refine az ?_|refine rm ?_|refine VBs.own ?_|fail)<;>(try conv=>whnf))
    all_goals (refine congrArg AV.bool ?_; rw [decide_eq_false h1]; rfl)
theorem emptyN_a (b : Sl3) (h : ¬ b.2.1 = 0) : AFnP Try.prog 16 [.agg [.lst 0 [], sv3 b]] (.bool false) := by
  refine afnp_in ty_ok Try.call16 Try.func16 rfl rfl (by decide +kernel) ?_
  (try conv=>whnf)<;>repeat'((first|exact sNo|refine sT ?_|refine sF ?_|((first|refine sD ?_ ?_|refine sE ?_ ?_|refine sN ?_ ?_|refine sG ?_ ?_)<;>intro ht<;>(first|(cases ht;done)|skip))|refine wr ?_|refine ix ?_|refine ati ?_|refine row ?_|refine app ?_|refine dr ?_|refine VAnd.mk ?_ ?_|exact VJe.mk rfl ⟨rfl,rfl⟩|refine .inl (slM ?_)|refine .inl (slO ?_)|refine slM ?_|refine slO ?_|refine slN ?_|refine slS ?_|refine swB (swM fun C hC=>?_)|refine sj ?_|refine .inl (sv ?_)|refine sv ?_|refine cl ?_|refine s3 ?_|refine az ?_|refine rm ?_|refine VBs.own ?_|fail)<;>(try conv=>whnf))
  all_goals rfl
theorem OwnT_lens {t : Tr8} {a b : Sl3} {Q : List RowD} (h : OwnT t a b Q) : a.2.1 = t.es.length ∧ b.2.1 = t.ks.length := by
  rw [OwnT_iff] at h
  obtain ⟨D1, D2, xs, Q, rfl, h1, h2, h3⟩ := h
  exact ⟨h1.n, h2.n.trans (OwnK_len h3)⟩
theorem AFn.nilw {P : Program} {f : FuncId} {args : List AV} {h : List AP} {R R' : AV → List AP → Prop} (ha : AFn P f args h R) (hR : ∀ r h', R r h' → R' r h' ∨ ∃ b e, r = .tup [.agg [.nils, sv3 b], i64 e] ∧ R' (.tup [.agg [sv3 (none, 0, 0), sv3 b], i64 e]) h') : AFn P f args h R' := by
  intro E vs L hnx hvs hh
  obtain ⟨g1, g2⟩ := ha E vs L hnx hvs hh
  refine ⟨g1, fun w hs => (g2 w hs).mono ?_⟩
  rintro x w' ⟨v, H', O, hx, hse, E', r, h', e, hE, hv, hh', hn, hr0⟩
  rcases hR r h' hr0 with hr | ⟨b, n, rfl, hr⟩
  · exact ⟨v, H', O, hx, hse, E', r, h', e, hE, hv, hh', hn, hr⟩
  · refine ⟨v, H', O, hx, hse, E', _, h', e, hE, ?_, hh', hn, hr⟩
    simp only [V, VL] at hv ⊢
    exact hv
theorem cntT_wrap (t : Tr8) : ∀ path : List ByteArray, cntT (wrapT t path) = cntT t + path.length
  | [] => rfl
  | p :: path => by
    have h := cntT_wrap t path
    show cntT (.mk [] [(p, wrapT t path)]) = _
    rw [cntT, cntK, cntX, cntK, h]
    simp only [List.length_nil, List.length_cons]
    omega
theorem wrap_ne {t : Tr8} (he : emptyT t = false) (path : List ByteArray) : ¬ ((wrapT t path).es.length = 0 ∧ (wrapT t path).ks.length = 0) := by
  cases path with
  | nil =>
    intro h
    have : emptyT t = true := by
      unfold emptyT
      have h1 : t.es.length = 0 := h.1
      have h2 : t.ks.length = 0 := h.2
      simp [List.eq_nil_of_length_eq_zero h1, List.eq_nil_of_length_eq_zero h2]
    rw [he] at this
    cases this
  | cons p path => intro h; exact absurd h.2 (by simp [wrapT, Tr8.ks])
theorem Wrap_s (t : Tr8) (path : List ByteArray) (hc : cntT t ≤ 900000) (hn : path.length ≤ 100000) (Ps : List RowD) : AFn Try.prog 19 [.agg [lstE entE t.es, lstE kidRow t.ks], lstE strE path] [.bag 0 Ps] (ScrW Ps) := by
  have hc1 : cntT t ≤ 1000000 := by omega
  cases hr : rightT 5 t
  · exact (wrap_r t path hr hc1).scr0w
  cases hk : path.any (fun k => !okKey k)
  rotate_left
  · exact (wrap_k t path hr hc1 (by omega) hk).scr0w
  by_cases hd : 5 < path.length ∨ (emptyT t = false ∧ 5 < deepT t + path.length)
  · exact (wrap_d t path hr hc1 (by omega) hk hd).scr0w
  cases he : emptyT t
  rotate_left
  · obtain ⟨es, ks⟩ := t
    obtain ⟨rfl, rfl⟩ : es = [] ∧ ks = [] := by
      unfold emptyT at he
      simp only [Tr8.es, Tr8.ks] at he
      constructor
      · cases es with
        | nil => rfl
        | cons x es => simp at he
      · cases ks with
        | nil => rfl
        | cons x ks => simp at he
    exact (wrap_e path (by omega) hk).scr0w
  have hd5 : deepT t + path.length ≤ 5 := by
    rcases Nat.lt_or_ge 5 (deepT t + path.length) with h | h
    · exact absurd (.inr ⟨he, h⟩) hd
    · exact h
  refine AFn.nilw (R := fun r h' => ∃ (c0 : AV) (a b : Sl3) (Q Q' N : List RowD), r = .tup [.agg [c0, sv3 b], i64 0] ∧ h' = [.bag 0 Q'] ∧ (c0 = sv3 a ∨ (c0 = .nils ∧ a = (none, 0, 0))) ∧ (N ++ Q').Perm (Q ++ Ps) ∧ OwnT (wrapT t path) a b Q ∧ ∀ D ∈ N, NilD D) ?_ ?_
  rotate_left
  · rintro r h' ⟨c0, a, b, Q, Q', N, rfl, rfl, h1, hp, ho, hN⟩
    have hcw : cntT (wrapT t path) ≤ 1000000 := by rw [cntT_wrap]; omega
    have hs : ScrW Ps (.tup [.agg [sv3 a, sv3 b], i64 0]) [.bag 0 Q'] := ⟨_, _, rfl, a, b, Q', rfl, rfl, scr_of (G := []) hcw ⟨Q, N, hp, ho, hN⟩⟩
    rcases h1 with rfl | ⟨rfl, rfl⟩
    · exact .inl hs
    · exact .inr ⟨b, 0, rfl, hs⟩
  have r1 := tright_a t hc1
  have r2 := containsStr_a path (by omega) (g := 43) (fun k => !okKey k) (fun k => wrap1_a k)
  have r3 := empty_a t
  have r4 := deep_a 5 t (by omega) hr hc1
  have r5 := cloneA 5 t hr hc1 Ps
  rw [hr] at r1
  rw [hk] at r2
  rw [he] at r3
  refine afn_in ty_ok Try.call19 Try.func19 rfl rfl (by decide +kernel) ?_
  (try conv=>whnf)<;>repeat'((first|exact sNo|refine sT ?_|refine sF ?_|((first|refine sD ?_ ?_|refine sE ?_ ?_|refine sN ?_ ?_|refine sG ?_ ?_)<;>intro ht<;>(first|(cases ht;done)|skip))|refine wr ?_|refine ix ?_|refine ati ?_|refine row ?_|refine app ?_|refine dr ?_|refine VAnd.mk ?_ ?_|exact VJe.mk rfl ⟨rfl,rfl⟩|refine .inl (slM ?_)|refine .inl (slO ?_)|refine slM ?_|refine slO ?_|refine slN ?_|refine slS ?_|refine swB (swM fun C hC=>?_)|refine sj ?_|refine .inl (sv ?_)|refine sv ?_|refine cl ?_|refine s3 ?_|refine az ?_|refine rm ?_|refine VBs.own ?_|refine cf r1 ?_|refine cg r1 ?_|refine cz r1 ?_|refine cf r2 ?_|refine cg r2 ?_|refine cz r2 ?_|refine cf r3 ?_|refine cg r3 ?_|refine cz r3 ?_|refine cf r4 ?_|refine cg r4 ?_|refine cz r4 ?_|(refine ca r5 ?_;rintro r h' ⟨a,b,Q,Q',rfl,rfl,hp,ho⟩)|fail)<;>(try conv=>whnf))
  clear r1 r2 r3 r4 r5
  refine VLp.mk ⟨[], [], [2, 4, 6], fun k vs h => ∃ (j : Nat) (c0 : AV) (a b : Sl3) (Q Q' N : List RowD), j ≤ path.length ∧ k = j ∧ vs = [.op 1 0, .op 2 0, i64 ((j : Int) - 1)] ∧ h = [.bag 0 Q', .blk 1 [c0, sv3 b] 25, .blk 2 [.nils, .nils] 25] ∧ (c0 = sv3 a ∨ (c0 = .nils ∧ a = (none, 0, 0))) ∧ (N ++ Q').Perm (Q ++ Ps) ∧ OwnT (wrapT t (path.drop j)) a b Q ∧ ∀ D ∈ N, NilD D, path.length, ?_⟩
  conv => whnf
  refine ⟨⟨path.length, sv3 a, a, b, Q, Q', [], by omega, rfl, rfl, rfl, .inl rfl, hp, by rw [List.drop_length]; exact ho, fun D hD => by cases hD⟩, ?_⟩
  clear hp ho
  rintro k vs h ⟨j, c0, a, b, Q, Q', N, hj, rfl, rfl, rfl, hc0, hp, ho, hN⟩
  obtain ⟨n1, n2⟩ := OwnT_lens ho
  have hne := wrap_ne he (path.drop k)
  rw [← n1, ← n2] at hne
  rcases Nat.eq_zero_or_pos k with h0 | h0
  · subst h0
    rw [List.drop_zero] at ho
    rcases hc0 with rfl | ⟨rfl, rfl⟩
    · (try conv=>whnf)<;>repeat'((first|exact sNo|refine sT ?_|refine sF ?_|((first|refine sD ?_ ?_|refine sE ?_ ?_|refine sN ?_ ?_|refine sG ?_ ?_)<;>intro ht<;>(first|(cases ht;done)|skip))|refine wr ?_|refine ix ?_|refine ati ?_|refine row ?_|refine app ?_|refine dr ?_|refine VAnd.mk ?_ ?_|exact VJe.mk rfl ⟨rfl,rfl⟩|refine .inl (slM ?_)|refine .inl (slO ?_)|refine slM ?_|refine slO ?_|refine slN ?_|refine slS ?_|refine swB (swM fun C hC=>?_)|refine sj ?_|refine .inl (sv ?_)|refine sv ?_|refine cl ?_|refine s3 ?_|refine az ?_|refine rm ?_|refine VBs.own ?_|fail)<;>(try conv=>whnf))
      all_goals exact VRt.mk rfl ⟨_, a, b, Q, Q', N, rfl, rfl, .inl rfl, hp, ho, hN⟩
    · (try conv=>whnf)<;>repeat'((first|exact sNo|refine sT ?_|refine sF ?_|((first|refine sD ?_ ?_|refine sE ?_ ?_|refine sN ?_ ?_|refine sG ?_ ?_)<;>intro ht<;>(first|(cases ht;done)|skip))|refine wr ?_|refine ix ?_|refine ati ?_|refine row ?_|refine app ?_|refine dr ?_|refine VAnd.mk ?_ ?_|exact VJe.mk rfl ⟨rfl,rfl⟩|refine .inl (slM ?_)|refine .inl (slO ?_)|refine slM ?_|refine slO ?_|refine slN ?_|refine slS ?_|refine swB (swM fun C hC=>?_)|refine sj ?_|refine .inl (sv ?_)|refine sv ?_|refine cl ?_|refine s3 ?_|refine az ?_|refine rm ?_|refine VBs.own ?_|fail)<;>(try conv=>whnf))
      all_goals exact VRt.mk rfl ⟨_, (none, 0, 0), b, Q, Q', N, rfl, rfl, .inr ⟨rfl, rfl⟩, hp, ho, hN⟩
  · obtain ⟨j0, hj0⟩ : ∃ j, k = j + 1 := ⟨k - 1, by omega⟩
    have hjj : (k : Int) - 1 = (j0 : Int) := by omega
    have hin : j0 < path.length := by omega
    have hw := wrapT_drop (t := t) hin
    rw [← hj0] at hw
    have hend : ∀ ad : Addr, OwnT (wrapT t (path.drop j0)) (none, 0, 0) (some ad, 1, 1) (⟨.slice none 0 0, 63, 4, []⟩ :: ⟨.slice (some ad) 1 1, 56, 3, [[.string path[j0], sl3 a, sl3 b]]⟩ :: Q) := fun ad => by
      rw [hw, OwnT_iff]
      exact ⟨_, _, [(path[j0], a, b)], Q, rfl, ⟨rfl, rfl, rfl, rfl, rfl⟩, ⟨rfl, rfl, rfl, rfl, rfl⟩, by
        show OwnK [(path[j0], wrapT t (path.drop k))] _ _
        rw [OwnK_cons]
        exact ⟨a, b, [], Q, [], rfl, by simp, ho, by rw [OwnK]; exact ⟨rfl, rfl⟩⟩⟩
    have hperm : ∀ D1 D2 : RowD, ((D1 :: N) ++ (D2 :: Q')).Perm ((D1 :: D2 :: Q) ++ Ps) := fun D1 D2 => List.Perm.cons _ (List.perm_middle.trans (List.Perm.cons _ hp))
    have hN' : ∀ D ∈ (⟨.slice none 0 0, 63, 4, []⟩ : RowD) :: N, NilD D := fun D hD => by
      rcases List.mem_cons.1 hD with rfl | hD
      · exact ⟨rfl, rfl⟩
      · exact hN D hD
    rw [hjj]
    rcases hc0 with rfl | ⟨rfl, rfl⟩
    · have q := emptyV_a a b false (by
        rw [Bool.and_eq_false_iff, decide_eq_false_iff_not, decide_eq_false_iff_not]
        by_cases h1 : a.2.1 = 0
        · exact .inr fun h2 => hne ⟨h1, h2⟩
        · exact .inl h1)
      (try conv=>whnf)<;>repeat'((first|(refine drx [6] [] [] ?_;(try conv=>whnf);(fail_if_success (show False)))|exact sNo|refine sT ?_|refine sF ?_|((first|refine sD ?_ ?_|refine sE ?_ ?_|refine sN ?_ ?_|refine sG ?_ ?_)<;>intro ht<;>(first|(cases ht;done)|skip))|refine wr ?_|refine ix ?_|refine ati ?_|refine row ?_|refine app ?_|refine dr ?_|refine VAnd.mk ?_ ?_|exact VJe.mk rfl ⟨rfl,rfl⟩|refine .inl (slM ?_)|refine .inl (slO ?_)|refine slM ?_|refine slO ?_|refine slN ?_|refine slS ?_|refine swB (swM fun C hC=>?_)|refine sj ?_|refine .inl (sv ?_)|refine sv ?_|refine cl ?_|refine s3 ?_|refine az ?_|refine rm ?_|refine VBs.own ?_|refine cf q ?_|refine cg q ?_|refine cz q ?_|(refine VBg.bag ?_;intro ad)|fail)<;>(try conv=>whnf))
      all_goals exact VRd.mk rfl ⟨j0, by omega, j0, _, _, _, _, _, _, by omega, rfl, rfl, rfl, .inr ⟨rfl, rfl⟩, hperm _ _, hend ad, hN'⟩
    · have q := emptyN_a b (fun h2 => hne ⟨rfl, h2⟩)
      (try conv=>whnf)<;>repeat'((first|(refine drx [6] [] [] ?_;(try conv=>whnf);(fail_if_success (show False)))|exact sNo|refine sT ?_|refine sF ?_|((first|refine sD ?_ ?_|refine sE ?_ ?_|refine sN ?_ ?_|refine sG ?_ ?_)<;>intro ht<;>(first|(cases ht;done)|skip))|refine wr ?_|refine ix ?_|refine ati ?_|refine row ?_|refine app ?_|refine dr ?_|refine VAnd.mk ?_ ?_|exact VJe.mk rfl ⟨rfl,rfl⟩|refine .inl (slM ?_)|refine .inl (slO ?_)|refine slM ?_|refine slO ?_|refine slN ?_|refine slS ?_|refine swB (swM fun C hC=>?_)|refine sj ?_|refine .inl (sv ?_)|refine sv ?_|refine cl ?_|refine s3 ?_|refine az ?_|refine rm ?_|refine VBs.own ?_|refine cf q ?_|refine cg q ?_|refine cz q ?_|(refine VBg.bag ?_;intro ad)|fail)<;>(try conv=>whnf))
      all_goals exact VRd.mk rfl ⟨j0, by omega, j0, _, _, _, _, _, _, by omega, rfl, rfl, rfl, .inr ⟨rfl, rfl⟩, hperm _ _, hend ad, hN'⟩
end Go.Proofs.Ytailblpjmgabjaa
