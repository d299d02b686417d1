/- What is proved: causal.Clone and bundle.Clone answer into the caller's arena; a bundle that lies there is read by functions that only read. Conditions: none. -/
import Derived.Test.YtlghgdgpbnlpmaaGreatMOb
import Derived.Test.YtlghgdgpbnlpmaaGreatMOa
import Derived.Test.YtlghgdgpbnlpmaaGreatGc
import Derived.Test.YtlghgdgpbnlpmaaGreatGi
namespace Go.Proofs.YtlghgdgpbnlpmaaGreat
open Go.RowKit
set_option linter.unusedVariables false
set_option linter.unusedSimpArgs false
set_option maxRecDepth 100000
set_option maxHeartbeats 16000000
/-! a context in the arena, a bundle in the arena -/
def spV (s : Spn) : List Value := [.int .i64 s.1, .int .i64 s.2.1, .int .i64 s.2.2]
structure SpnD (c : List Spn) (v : Sl3) (D : RowD) : Prop where
  v : D.v = sl3 v
  E : D.E = 128
  k : D.k = 3
  rows : D.rows = c.map spV
theorem spV_VL (E : Env) (s : Spn) : VL E (spE s) (spV s) := by
  simp only [spE, spV, i64, VL, V]
  exact ⟨_, _, rfl, rfl, _, _, rfl, rfl, _, _, rfl, rfl, rfl⟩
abbrev Bn3 := Sl3 × Sl3 × Sl3
/-- a tree and a context lie in these rows -/
def OwnC (t : Tr8) (c : List Spn) (x : Bn3) (rs : List RowD) : Prop := ∃ D Q, rs = D :: Q ∧ SpnD c x.2.2 D ∧ OwnT t x.1 x.2.1 Q
def cauO (x : Bn3) : List AV := [sv3 x.1, sv3 x.2.1, sv3 x.2.2]
def bunO (b : Bun) (x : Bn3) : List AV := [i64 b.dc, i64 b.af, i64 b.la, i64 (b.dp 0), i64 (b.dp 1), i64 (b.dp 2), i64 (b.dp 3), sv3 x.1, sv3 x.2.1, sv3 x.2.2]
theorem OwnC_read {w : World} {H : Hp} {t : Tr8} {c : List Spn} {x : Bn3} {rs : List RowD} (h : OwnC t c x rs) (hw : ∀ D ∈ rs, D.holds w) (hH : ∀ D ∈ rs, ∀ b, D.hasB b → H b = w.heap[b]?) : VL (Env.fz H) [lstE entE t.es, lstE kidRow t.ks, lstE spE c] [sl3 x.1, sl3 x.2.1, sl3 x.2.2] := by
  obtain ⟨D, Q, rfl, h1, h2⟩ := h
  have a1 := OwnT_read (deepT t) (Nat.le_refl _) h2 (fun D hD => hw D (List.mem_cons_of_mem _ hD)) (fun D hD => hH D (List.mem_cons_of_mem _ hD))
  have a2 : V (Env.fz H) (lstE spE c) D.v := by
    have := RowD.lst (H := H) (hw D (by simp)) (hH D (by simp)) (rows := c.map spE) (by rw [h1.rows]; exact VLL_map fun e _ => spV_VL _ e)
    rw [List.length_map] at this
    exact this
  rw [h1.v] at a2
  simp only [VL] at a1 ⊢
  obtain ⟨u1, _, e1, g1, u2, _, e2, g2, rfl⟩ := a1
  obtain ⟨rfl, rfl⟩ := List.cons.inj e1
  obtain ⟨rfl, _⟩ := List.cons.inj e2
  exact ⟨_, _, rfl, g1, _, _, rfl, g2, _, _, rfl, a2, rfl⟩
theorem tcloneA (t : Tr8) (hr : rightT 5 t = true) (hc : cntT t ≤ 1000000) (Ps : List RowD) : AFn Tryz.prog 118 [.agg [lstE entE t.es, lstE kidRow t.ks]] [.bag 0 Ps] (AnsT t Ps) := by
  have r1 := tright_a t hc
  rw [hr] at r1
  have r2 := cloneA 5 t hr hc Ps
  rw [kidRow_fun] at r1 r2 ⊢
  refine afn_in ty_ok Tryz.call118 Tryz.func118 rfl rfl (by decide +kernel) ?_
  (try conv=>whnf)<;>repeat'((first|exact sNo|refine sT ?_|refine sF ?_|((first|refine sD ?_ ?_|refine sE ?_ ?_|refine sN ?_ ?_|refine sG ?_ ?_)<;>intro ht<;>(first|(cases ht;done)|skip))|refine wr ?_|refine ix ?_|refine ati ?_|refine row ?_|refine app ?_|refine dr ?_|refine VAnd.mk ?_ ?_|exact VJe.mk rfl ⟨rfl,rfl⟩|refine .inl (slM ?_)|refine .inl (slO ?_)|refine slM ?_|refine slO ?_|refine slN ?_|refine slS ?_|refine swB (swM fun C hC=>?_)|refine sj ?_|refine .inl (sv ?_)|refine sv ?_|refine cl ?_|refine s3 ?_|refine az ?_|refine rm ?_|refine VBs.own ?_|refine cf r1 ?_|refine cg r1 ?_|refine cz r1 ?_|(refine ca r2 ?_;rintro r h' ⟨a,b,Q,Q',rfl,rfl,hp,ho⟩)|fail)<;>(try conv=>whnf))
  all_goals exact VRt.mk rfl ⟨a, b, Q, Q', rfl, rfl, hp, ho⟩
theorem cloneX_o (l : List Spn) (hn : l.length ≤ 1000000) : AFn Tryz.prog 119 [lstE spE l] [] (fun r h' => r = .own 0 l.length ∧ h' = [.row 0 128 3 (l.map spE)]) := by
  refine AFn.nilV (El := 128) (k := 3) (R' := fun r h' => (r = .nils ∧ h' = [] ∧ l.length = 0) ∨ (r = .own 0 l.length ∧ h' = [.row 0 128 3 (l.map spE)])) ?_ (fun r h' hr => hr.symm.imp id fun ⟨h1, h2, h3⟩ => ⟨h1, h2, by rw [h3], by rw [List.eq_nil_of_length_eq_zero h3]; rfl⟩)
  refine afn_in ty_ok Tryz.call119 Tryz.func119 rfl rfl (by decide +kernel) ?_
  (try conv=>whnf)<;>repeat'((first|exact sNo|refine sT ?_|refine sF ?_|((first|refine sD ?_ ?_|refine sE ?_ ?_|refine sN ?_ ?_|refine sG ?_ ?_)<;>intro ht<;>(first|(cases ht;done)|skip))|refine wr ?_|refine ix ?_|refine ati ?_|refine row ?_|refine app ?_|refine dr ?_|refine VAnd.mk ?_ ?_|exact VJe.mk rfl ⟨rfl,rfl⟩|refine .inl (slM ?_)|refine .inl (slO ?_)|refine slM ?_|refine slO ?_|refine slN ?_|refine slS ?_|refine swB (swM fun C hC=>?_)|refine sj ?_|refine .inl (sv ?_)|refine sv ?_|refine cl ?_|refine s3 ?_|refine az ?_|refine rm ?_|refine VBs.own ?_|refine vNl (fun hb => ?_) ?_|fail)<;>(try conv=>whnf))
  · exact VRt.mk rfl (.inl ⟨rfl, rfl, by assumption⟩)
  · exact VRt.mk rfl (.inr ⟨by simp, rfl⟩)
/-- an answer that is a tree and a context, in the arena -/
def AnsC (t : Tr8) (c : List Spn) (Ps : List RowD) (r : AV) (h' : List AP) : Prop := ∃ x Q Q', r = .agg (cauO x) ∧ h' = [.bag 0 Q'] ∧ Q'.Perm (Q ++ Ps) ∧ OwnC t c x Q
theorem AFn.causal {P : Program} {f : FuncId} {args : List AV} {Ps : List RowD} {t : Tr8} {c : List Spn} (ha : AFn P f args [.bag 0 Ps] (fun r h' => ∃ (a b : Sl3) (Q Q' : List RowD), r = .agg [sv3 a, sv3 b, .own 1 c.length] ∧ h' = [.bag 0 Q', .row 1 128 3 (c.map spE)] ∧ Q'.Perm (Q ++ Ps) ∧ OwnT t a b Q)) : AFn P f args [.bag 0 Ps] (AnsC t c Ps) := by
  refine ha.into1 ?_
  rintro r h' ⟨a, b, Q, Q', rfl, rfl, hp, ho⟩
  refine ⟨[sv3 a, sv3 b], [sl3 a, sl3 b], Q', _, _, c.map spE, rfl, by rw [List.length_map]; rfl, rfl, fun E a1 c1 rs1 g1 => ?_⟩
  have e1 := VLL_flat (f := spE) (g := spV) (fun _ => rfl) g1
  exact ⟨(a, b, (a1, _, c1)), _, _, rfl, rfl, hp.cons _, ⟨_, _, rfl, ⟨rfl, rfl, rfl, e1⟩, ho⟩⟩
theorem causA (t : Tr8) (c : List Spn) (hc : cntT t ≤ 200) (hl : c.length ≤ 200) (h : causR t c = true) (Ps : List RowD) : AFn Tryz.prog 92 [.agg [lstE entE t.es, lstE kidRow t.ks, lstE spE c]] [.bag 0 Ps] (AnsC t c Ps) := by
  refine AFn.causal ?_
  refine afn_in ty_ok Tryz.call92 Tryz.func92 rfl rfl (by decide +kernel) ?_
  have r1 := causR_p hc hl h
  have hr : rightT 5 t = true := by unfold causR at h; simp only [Bool.and_eq_true] at h; exact h.1
  have r2 := tcloneA t hr (by omega) Ps
  have r3 := cloneX_o c (by omega)
  (try conv=>whnf)<;>repeat'((first|(refine drx [1,2,4,5,2000] [] [] ?_;(try conv=>whnf);(fail_if_success (show False)))|exact sNo|refine sT ?_|refine sF ?_|((first|refine sD ?_ ?_|refine sE ?_ ?_|refine sN ?_ ?_|refine sG ?_ ?_)<;>intro ht<;>(first|(cases ht;done)|skip))|refine wr ?_|refine ix ?_|refine ati ?_|refine row ?_|refine app ?_|refine dr ?_|refine VAnd.mk ?_ ?_|exact VJe.mk rfl ⟨rfl,rfl⟩|refine .inl (slM ?_)|refine .inl (slO ?_)|refine slM ?_|refine slO ?_|refine slN ?_|refine slS ?_|refine swB (swM fun C hC=>?_)|refine sj ?_|refine .inl (sv ?_)|refine sv ?_|refine cl ?_|refine s3 ?_|refine az ?_|refine rm ?_|refine VBs.own ?_|refine cp r1 ?_|refine cf r1 ?_|refine cg r1 ?_|refine cz r1 ?_|(refine ca r2 ?_;rintro r h' ⟨a,b,Q,Q',rfl,rfl,hp,ho⟩)|(refine co r3 ?_;rintro r h' ⟨rfl,rfl⟩)|fail)<;>(try conv=>whnf))
  all_goals exact VRt.mk rfl ⟨a, b, Q, Q', rfl, rfl, hp, ho⟩
/-- an answer that is a bundle, in the arena -/
def AnsB (b : Bun) (Ps : List RowD) (r : AV) (h' : List AP) : Prop := ∃ x Q Q', r = .agg (bunO b x) ∧ h' = [.bag 0 Q'] ∧ Q'.Perm (Q ++ Ps) ∧ OwnC b.t b.c x Q
theorem bcloneA (b : Bun) (hb : SmB b) (h : rightB b = true) (Ps : List RowD) : AFn Tryz.prog 60 [.agg (bunE b)] [.bag 0 Ps] (AnsB b Ps) := by
  refine afn_in ty_ok Tryz.call60 Tryz.func60 rfl rfl (by decide +kernel) ?_
  have hc := hb.cnt
  have hl := hb.len
  have r1 := bright_p hb h
  have r2 := causA b.t b.c (by omega) (by omega) (right_caus h) Ps
  (try conv=>whnf)<;>repeat'((first|exact sNo|refine sT ?_|refine sF ?_|((first|refine sD ?_ ?_|refine sE ?_ ?_|refine sN ?_ ?_|refine sG ?_ ?_)<;>intro ht<;>(first|(cases ht;done)|skip))|refine wr ?_|refine ix ?_|refine ati ?_|refine row ?_|refine app ?_|refine dr ?_|refine VAnd.mk ?_ ?_|exact VJe.mk rfl ⟨rfl,rfl⟩|refine .inl (slM ?_)|refine .inl (slO ?_)|refine slM ?_|refine slO ?_|refine slN ?_|refine slS ?_|refine swB (swM fun C hC=>?_)|refine sj ?_|refine .inl (sv ?_)|refine sv ?_|refine cl ?_|refine s3 ?_|refine az ?_|refine rm ?_|refine VBs.own ?_|refine cf r1 ?_|refine cg r1 ?_|refine cz r1 ?_|(refine ca r2 ?_;rintro r h' ⟨x,Q,Q',rfl,rfl,hp,ho⟩)|fail)<;>(try conv=>whnf))
  all_goals exact VRt.mk rfl ⟨x, Q, Q', rfl, rfl, hp, ho⟩
/-! a bundle whose tree lies in the arena (its context is frozen), lent -/
def bunM (b : Bun) (x : Sl3 × Sl3) : List AV := [i64 b.dc, i64 b.af, i64 b.la, i64 (b.dp 0), i64 (b.dp 1), i64 (b.dp 2), i64 (b.dp 3), sv3 x.1, sv3 x.2, lstE spE b.c]
theorem bunM_read {b : Bun} {x : Sl3 × Sl3} {Qt Qr Q : List RowD} (hpm : Q.Perm (Qt ++ Qr)) (h : OwnT b.t x.1 x.2 Qt) (E : Env) (w : World) (vs : List Value) (hH : Hp.le E.H (Go.Proofs.YtlghgdgpbnlpmaaGreat.hp w)) (hw : (Piece.bag Q).holds w) (hv : VL E [.agg (bunM b x)] vs) : VFL (Go.Proofs.YtlghgdgpbnlpmaaGreat.hp w) [.agg (bunE b)] vs := by
  have hsub : ∀ D ∈ Qt, D ∈ Q := fun D hD => hpm.mem_iff.2 (List.mem_append_left _ hD)
  have a1 := OwnT_read (H := Go.Proofs.YtlghgdgpbnlpmaaGreat.hp w) (deepT b.t) (Nat.le_refl _) h (fun D hD => hw.1 D (hsub D hD)) (fun D hD b hb => rfl)
  simp only [VL, V, bunM, bunE, i64] at hv a1 ⊢
  obtain ⟨u1, _, e1, g1, u2, _, e2, g2, rfl⟩ := a1
  obtain ⟨rfl, rfl⟩ := List.cons.inj e1
  obtain ⟨rfl, _⟩ := List.cons.inj e2
  obtain ⟨_, _, rfl, ⟨us, rfl, _, _, rfl, rfl, _, _, rfl, rfl, _, _, rfl, rfl, _, _, rfl, rfl, _, _, rfl, rfl, _, _, rfl, rfl, _, _, rfl, rfl, _, _, rfl, rfl, _, _, rfl, rfl, v, _, rfl, hc, rfl⟩, rfl⟩ := hv
  have hc' : VF (Go.Proofs.YtlghgdgpbnlpmaaGreat.hp w) (lstE spE b.c) v := by
    unfold lstE
    simp only [V]
    obtain ⟨a, c, k, q1, q2, q3, q4, q5⟩ := hc
    exact ⟨a, c, k, q1, q2, q3, q4, VR_mono _ _ a k 0 _ (Env.le.fz hH) q5⟩
  exact ⟨_, _, rfl, ⟨_, rfl, _, _, rfl, rfl, _, _, rfl, rfl, _, _, rfl, rfl, _, _, rfl, rfl, _, _, rfl, rfl, _, _, rfl, rfl, _, _, rfl, rfl, _, _, rfl, g1, _, _, rfl, g2, _, _, rfl, hc', rfl⟩, rfl⟩
theorem bright_l {b : Bun} (hb : SmB b) {x : Sl3 × Sl3} {Qt Qr Q : List RowD} (hp : Q.Perm (Qt ++ Qr)) (h : OwnT b.t x.1 x.2 Qt) {t : Bool} (ht : rightB b = t) : AFn Tryz.prog 55 [.agg (bunM b x)] [.bag 0 Q] (fun r h' => r = .bool t ∧ h' = [.bag 0 Q]) :=
  AFn.lend Tryz.call55 (bright_p hb ht) rfl (fun E w vs h1 h2 h3 => bunM_read hp h E w vs h1 h2 h3)
theorem bclone_l {b : Bun} (hb : SmB b) {x : Sl3 × Sl3} {Qt Qr Q : List RowD} (hp : Q.Perm (Qt ++ Qr)) (h : OwnT b.t x.1 x.2 Qt) (ht : rightB b = true) : AFn Tryz.prog 60 [.agg (bunM b x)] [.bag 0 Q] (fun r h' => r = .agg (bunE b) ∧ h' = [.bag 0 Q]) := by
  refine AFn.lendC Tryz.call60 (bcloneA b hb ht []) (fun E w vs h1 h2 h3 => bunM_read hp h E w vs h1 h2 h3) ?_
  rintro r h' ⟨y, Q1, Q2, rfl, rfl, hp1, ho⟩
  refine ⟨Q2, rfl, fun E v w hw hE hv => ?_⟩
  rw [List.append_nil] at hp1
  have a1 := OwnC_read (H := E.H) ho (fun D hD => hw.1 D (hp1.mem_iff.2 hD)) (fun D hD b hb => hE b ⟨D, hp1.mem_iff.2 hD, hb⟩)
  simp only [VL, V, bunO, bunE, i64] at hv a1 ⊢
  obtain ⟨u1, _, e1, g1, u2, _, e2, g2, u3, _, e3, g3, rfl⟩ := a1
  obtain ⟨rfl, rfl⟩ := List.cons.inj e1
  obtain ⟨rfl, rfl⟩ := List.cons.inj e2
  obtain ⟨rfl, _⟩ := List.cons.inj e3
  obtain ⟨us, rfl, _, _, rfl, rfl, _, _, rfl, rfl, _, _, rfl, rfl, _, _, rfl, rfl, _, _, rfl, rfl, _, _, rfl, rfl, _, _, rfl, rfl, _, _, rfl, rfl, _, _, rfl, rfl, _, _, rfl, rfl, rfl⟩ := hv
  exact ⟨_, rfl, _, _, rfl, rfl, _, _, rfl, rfl, _, _, rfl, rfl, _, _, rfl, rfl, _, _, rfl, rfl, _, _, rfl, rfl, _, _, rfl, rfl, _, _, rfl, g1, _, _, rfl, g2, _, _, rfl, g3, rfl⟩
end Go.Proofs.YtlghgdgpbnlpmaaGreat
/- What is proved: a gate takes in a bundle that lies in the caller's arena, and answers what waits into the arena. Conditions: none. -/
namespace Go.Proofs.YtlghgdgpbnlpmaaGreat
open Go.RowKit
set_option linter.unusedVariables false
set_option linter.unusedSimpArgs false
set_option maxRecDepth 100000
set_option maxHeartbeats 16000000
theorem gkeyM_a (b : Bun) (x : Sl3 × Sl3) (h : rightB b = true) : AFnP Tryz.prog 57 [.agg (bunM b x)] (i64 (keyB b)) := by
  refine afp ty_ok Tryz.call57 Tryz.func57 ?_
  obtain ⟨⟨⟨h0, h4⟩, h1, h2, h3, h5⟩, h6⟩ := right_nums h
  (try conv=>whnf)<;>repeat'((first|exact sNo|refine sT ?_|refine sF ?_|((first|refine sD ?_ ?_|refine sE ?_ ?_|refine sN ?_ ?_|refine sG ?_ ?_)<;>intro ht<;>(first|(cases ht;done)|skip))|refine wr ?_|refine ix ?_|refine ati ?_|refine row ?_|refine app ?_|refine dr ?_|refine VAnd.mk ?_ ?_|exact VJe.mk rfl ⟨rfl,rfl⟩|refine .inl (slM ?_)|refine .inl (slO ?_)|refine slM ?_|refine slO ?_|refine slN ?_|refine slS ?_|refine swB (swM fun C hC=>?_)|refine sj ?_|refine .inl (sv ?_)|refine sv ?_|refine cl ?_|refine s3 ?_|refine az ?_|refine rm ?_|refine VBs.own ?_|fail)<;>(try conv=>whnf))
  all_goals rfl
theorem gadd_l (l : List Bun) (b : Bun) (hG : GI l) (hl : l.length ≤ 64) (hb : SmB b) {x : Sl3 × Sl3} {Qt Qr Q : List RowD} (hp : Q.Perm (Qt ++ Qr)) (ho : OwnT b.t x.1 x.2 Qt) : AFn Tryz.prog 14 [.op 1 0, .agg (bunM b x)] [.bag 0 Q, gB 1 l] (fun r h' => r = .tup [.bool (addG l b).2.1, i64 (addG l b).2.2] ∧ h' = [.bag 0 Q, gB 1 (addG l b).1]) := by
  refine afn_in ty_ok Tryz.call14 Tryz.func14 rfl rfl (by decide +kernel) ?_
  unfold gB
  have hml := gm_len l
  cases hR : rightB b
  · have r1 := bright_l hb hp ho hR
    rw [addG_no hR]
    (try conv=>whnf)<;>repeat'((first|exact sNo|refine sT ?_|refine sF ?_|((first|refine sD ?_ ?_|refine sE ?_ ?_|refine sN ?_ ?_|refine sG ?_ ?_)<;>intro ht<;>(first|(cases ht;done)|skip))|refine wr ?_|refine ix ?_|refine ati ?_|refine row ?_|refine app ?_|refine dr ?_|refine VAnd.mk ?_ ?_|exact VJe.mk rfl ⟨rfl,rfl⟩|refine .inl (slM ?_)|refine .inl (slO ?_)|refine slM ?_|refine slO ?_|refine slN ?_|refine slS ?_|refine swB (swM fun C hC=>?_)|refine sj ?_|refine .inl (sv ?_)|refine sv ?_|refine cl ?_|refine s3 ?_|refine az ?_|refine rm ?_|refine VBs.own ?_|(refine ca r1 ?_;rintro r h' ⟨rfl,rfl⟩)|fail)<;>(try conv=>whnf))
    all_goals exact VRt.mk rfl ⟨rfl, rfl⟩
  have r1 := bright_l hb hp ho hR
  have r2 := gkeyM_a b x hR
  have r3 := getB_a (gm l) (by omega) hG.srt (keyB b)
  cases hF : fndG b l
  · rw [get_none hF] at r3
    have r4 := lenB_a (gm l)
    rw [hml] at r4
    by_cases h64 : 64 ≤ l.length
    · rw [addG_full hR hF h64]
      generalize gm l = m at *
      (try conv=>whnf)<;>repeat'((first|(refine drx [1006,2000] [] [] ?_;(try conv=>whnf);(fail_if_success (show False)))|exact sNo|refine sT ?_|refine sF ?_|((first|refine sD ?_ ?_|refine sE ?_ ?_|refine sN ?_ ?_|refine sG ?_ ?_)<;>intro ht<;>(first|(cases ht;done)|skip))|refine wr ?_|refine ix ?_|refine ati ?_|refine row ?_|refine app ?_|refine dr ?_|refine VAnd.mk ?_ ?_|exact VJe.mk rfl ⟨rfl,rfl⟩|refine .inl (slM ?_)|refine .inl (slO ?_)|refine slM ?_|refine slO ?_|refine slN ?_|refine slS ?_|refine swB (swM fun C hC=>?_)|refine sj ?_|refine .inl (sv ?_)|refine sv ?_|refine cl ?_|refine s3 ?_|refine az ?_|refine rm ?_|refine VBs.own ?_|(refine ca r1 ?_;rintro r h' ⟨rfl,rfl⟩)|refine cp r2 ?_|refine cf r2 ?_|refine cg r2 ?_|refine cz r2 ?_|refine cp r3 ?_|refine cf r3 ?_|refine cg r3 ?_|refine cz r3 ?_|refine cp r4 ?_|refine cf r4 ?_|refine cg r4 ?_|refine cz r4 ?_|fail)<;>(try conv=>whnf))
      all_goals exact VRt.mk rfl ⟨rfl, rfl⟩
    · rw [addG_in hR hF h64]
      have r5 := bclone_l hb hp ho hR
      have r6 := putB_a (gm l) (by omega) hG.srt (keyB b) b
      rw [insG_gm hF] at r6
      dsimp only
      generalize gm (insG b l) = m' at *
      generalize gm l = m at *
      (try conv=>whnf)<;>repeat'((first|(refine drx [4,6,8,2000] [5,7] [2] ?_;(try conv=>whnf);(fail_if_success (show False)))|(refine drx [1006,2000] [] [] ?_;(try conv=>whnf);(fail_if_success (show False)))|exact sNo|refine sT ?_|refine sF ?_|((first|refine sD ?_ ?_|refine sE ?_ ?_|refine sN ?_ ?_|refine sG ?_ ?_)<;>intro ht<;>(first|(cases ht;done)|skip))|refine wr ?_|refine ix ?_|refine ati ?_|refine row ?_|refine app ?_|refine dr ?_|refine VAnd.mk ?_ ?_|exact VJe.mk rfl ⟨rfl,rfl⟩|refine .inl (slM ?_)|refine .inl (slO ?_)|refine slM ?_|refine slO ?_|refine slN ?_|refine slS ?_|refine swB (swM fun C hC=>?_)|refine sj ?_|refine .inl (sv ?_)|refine sv ?_|refine cl ?_|refine s3 ?_|refine az ?_|refine rm ?_|refine VBs.own ?_|(refine ca r1 ?_;rintro r h' ⟨rfl,rfl⟩)|refine cp r2 ?_|refine cf r2 ?_|refine cg r2 ?_|refine cz r2 ?_|refine cp r3 ?_|refine cf r3 ?_|refine cg r3 ?_|refine cz r3 ?_|refine cp r4 ?_|refine cf r4 ?_|refine cg r4 ?_|refine cz r4 ?_|(refine ca r5 ?_;rintro r h' ⟨rfl,rfl⟩)|refine cp r6 ?_|refine cf r6 ?_|refine cg r6 ?_|refine cz r6 ?_|fail)<;>(try conv=>whnf))
      all_goals exact VRt.mk rfl ⟨rfl, rfl⟩
  · obtain ⟨y, hx⟩ := get_some hF
    rw [hx] at r3
    rw [addG_there hR hF]
    generalize gm l = m at *
    (try conv=>whnf)<;>repeat'((first|(refine drx [1006,2000] [] [] ?_;(try conv=>whnf);(fail_if_success (show False)))|exact sNo|refine sT ?_|refine sF ?_|((first|refine sD ?_ ?_|refine sE ?_ ?_|refine sN ?_ ?_|refine sG ?_ ?_)<;>intro ht<;>(first|(cases ht;done)|skip))|refine wr ?_|refine ix ?_|refine ati ?_|refine row ?_|refine app ?_|refine dr ?_|refine VAnd.mk ?_ ?_|exact VJe.mk rfl ⟨rfl,rfl⟩|refine .inl (slM ?_)|refine .inl (slO ?_)|refine slM ?_|refine slO ?_|refine slN ?_|refine slS ?_|refine swB (swM fun C hC=>?_)|refine sj ?_|refine .inl (sv ?_)|refine sv ?_|refine cl ?_|refine s3 ?_|refine az ?_|refine rm ?_|refine VBs.own ?_|(refine ca r1 ?_;rintro r h' ⟨rfl,rfl⟩)|refine cp r2 ?_|refine cf r2 ?_|refine cg r2 ?_|refine cz r2 ?_|refine cp r3 ?_|refine cf r3 ?_|refine cg r3 ?_|refine cz r3 ?_|fail)<;>(try conv=>whnf))
    all_goals exact VRt.mk rfl ⟨rfl, rfl⟩
/-! bundles in the arena -/
abbrev BnO := Bun × Bn3
def bnO (z : BnO) : List AV := bunO z.1 z.2
def OwnL : List BnO → List RowD → Prop
  | [], Q => Q = []
  | z :: Z, Q => ∃ Q1 Q2, Q = Q1 ++ Q2 ∧ OwnC z.1.t z.1.c z.2 Q1 ∧ OwnL Z Q2
theorem OwnL_snoc : ∀ {Z : List BnO} {Q : List RowD} {z : BnO} {Q1 : List RowD}, OwnL Z Q → OwnC z.1.t z.1.c z.2 Q1 → OwnL (Z ++ [z]) (Q ++ Q1)
  | [], Q, z, Q1, h, h1 => by
    rw [OwnL] at h
    subst h
    simp only [List.nil_append, OwnL]
    exact ⟨Q1, [], by simp, h1, rfl⟩
  | y :: Z, Q, z, Q1, h, h1 => by
    rw [OwnL] at h
    obtain ⟨Qa, Qb, rfl, h2, h3⟩ := h
    rw [List.cons_append, OwnL]
    exact ⟨Qa, Qb ++ Q1, by rw [List.append_assoc], h2, OwnL_snoc h3 h1⟩
theorem gall_A (l : List Bun) (hG : GI l) (hl : l.length ≤ 64) (Ps : List RowD) : AFn Tryz.prog 22 [.op 1 0] [.bag 0 Ps, gB 1 l] (fun r h' => ∃ Z Q Q', r = .own 2 l.length ∧ h' = [.bag 0 Q', gB 1 l, .row 2 50 10 (Z.map bnO)] ∧ Z.map (·.1) = l ∧ Q'.Perm (Q ++ Ps) ∧ OwnL Z Q) := by
  refine afn_in ty_ok Tryz.call22 Tryz.func22 rfl rfl (by decide +kernel) ?_
  unfold gB
  have r1 := allB_a (gm l) (by rw [gm_len]; omega)
  have hrow := fun i (h : i < l.length) => prB_row (l := l) h
  have hlen := gm_len l
  unfold lstE at r1 ⊢
  generalize (gm l).map prB = R at *
  generalize (gm l).length = n at *
  (try conv=>whnf)<;>repeat'((first|exact sNo|refine sT ?_|refine sF ?_|((first|refine sD ?_ ?_|refine sE ?_ ?_|refine sN ?_ ?_|refine sG ?_ ?_)<;>intro ht<;>(first|(cases ht;done)|skip))|refine wr ?_|refine ix ?_|refine ati ?_|refine row ?_|refine app ?_|refine dr ?_|refine VAnd.mk ?_ ?_|exact VJe.mk rfl ⟨rfl,rfl⟩|refine .inl (slM ?_)|refine .inl (slO ?_)|refine slM ?_|refine slO ?_|refine slN ?_|refine slS ?_|refine swB (swM fun C hC=>?_)|refine sj ?_|refine .inl (sv ?_)|refine sv ?_|refine cl ?_|refine s3 ?_|refine az ?_|refine rm ?_|refine VBs.own ?_|refine cf r1 ?_|refine cg r1 ?_|refine cz r1 ?_|fail)<;>(try conv=>whnf))
  refine VLp.mk ⟨[.slot 3 50 10], [], [3, 14], fun k vs h => ∃ (i : Nat) (Z : List BnO) (Q Q' : List RowD), vs = [.own 2 i, i64 i] ∧ h = [.bag 0 Q', .blk 1 [.lst n R] 28, .row 2 50 10 (Z.map bnO)] ∧ i ≤ l.length ∧ k = l.length - i ∧ Z.map (·.1) = l.take i ∧ Q'.Perm (Q ++ Ps) ∧ OwnL Z Q, l.length, ?_⟩
  conv => whnf
  refine ⟨⟨0, [], [], Ps, rfl, rfl, by omega, by omega, rfl, List.Perm.refl _, rfl⟩, ?_⟩
  rintro k vs h ⟨i, Z, Q, Q', rfl, rfl, hi, rfl, hZ, hp, hO⟩
  by_cases hin : i < l.length
  · have hr := hrow i hin
    obtain ⟨h1, hS⟩ := hG.ok _ (List.getElem_mem hin)
    have q1 := bcloneA l[i] hS h1 Q'
    (try conv=>whnf)<;>repeat'((first|exact sNo|refine sT ?_|refine sF ?_|((first|refine sD ?_ ?_|refine sE ?_ ?_|refine sN ?_ ?_|refine sG ?_ ?_)<;>intro ht<;>(first|(cases ht;done)|skip))|refine wr ?_|refine ix ?_|refine ati ?_|refine row ?_|refine app ?_|refine dr ?_|refine VAnd.mk ?_ ?_|exact VJe.mk rfl ⟨rfl,rfl⟩|refine .inl (slM ?_)|refine .inl (slO ?_)|refine slM ?_|refine slO ?_|refine slN ?_|refine slS ?_|refine swB (swM fun C hC=>?_)|refine sj ?_|refine .inl (sv ?_)|refine sv ?_|refine cl ?_|refine s3 ?_|refine az ?_|refine rm ?_|refine VBs.own ?_|(refine ca q1 ?_;rintro r h' ⟨x,Qi,Qi',rfl,rfl,hpi,hoi⟩)|fail)<;>(try conv=>whnf))
    all_goals exact VRd.mk rfl ⟨l.length - (i + 1), by omega, i + 1, Z ++ [(l[i], x)], Q ++ Qi, Qi', rfl, by rw [List.map_append] <;> rfl, by omega, rfl, by rw [List.map_append, hZ, ← take_snoc hin]; rfl, (hpi.trans (hp.append_left _)).trans (by rw [← List.append_assoc]; exact List.perm_append_comm.append_right _), OwnL_snoc hO hoi⟩
  · obtain rfl : i = l.length := by omega
    rw [List.take_length] at hZ
    (try conv=>whnf)<;>repeat'((first|exact sNo|refine sT ?_|refine sF ?_|((first|refine sD ?_ ?_|refine sE ?_ ?_|refine sN ?_ ?_|refine sG ?_ ?_)<;>intro ht<;>(first|(cases ht;done)|skip))|refine wr ?_|refine ix ?_|refine ati ?_|refine row ?_|refine app ?_|refine dr ?_|refine VAnd.mk ?_ ?_|exact VJe.mk rfl ⟨rfl,rfl⟩|refine .inl (slM ?_)|refine .inl (slO ?_)|refine slM ?_|refine slO ?_|refine slN ?_|refine slS ?_|refine swB (swM fun C hC=>?_)|refine sj ?_|refine .inl (sv ?_)|refine sv ?_|refine cl ?_|refine s3 ?_|refine az ?_|refine rm ?_|refine VBs.own ?_|fail)<;>(try conv=>whnf))
    all_goals exact VRt.mk rfl ⟨Z, Q, Q', rfl, rfl, hZ, hp, hO⟩
end Go.Proofs.YtlghgdgpbnlpmaaGreat
