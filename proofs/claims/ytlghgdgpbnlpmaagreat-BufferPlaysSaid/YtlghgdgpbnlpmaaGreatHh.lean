/- What is proved: what the helpers of chapter 24's laws answer: is a buffer as the document says, an act. Conditions: none. -/
import Derived.Test.YtlghgdgpbnlpmaaGreatHf
import Derived.Test.YtlghgdgpbnlpmaaGreatHg
namespace Go.Proofs.YtlghgdgpbnlpmaaGreat
open Go.RowKit
set_option linter.unusedVariables false
set_option linter.unusedSimpArgs false
set_option maxRecDepth 100000
set_option maxHeartbeats 100000000
attribute [local irreducible] AFnP AFn AFnR in
theorem is24_a (b : Buf) (hB : BI b) (hc : b.cn ≤ 4) : AFnP Tryz.prog 45 [.fp (bufE b) 0, .agg (bufE b)] (.bool true) := by
  refine afp ty_ok Tryz.call45 Tryz.func45 ?_
  have hlen := hB.len
  have r1 := bseqs_a b hB
  have r2 := blen_a b
  have r3 := fun n => bhas_a b hc n
  have r4 := fun n => rof24_a b hc n
  have hrow := fun i (h : i < b.m.length) => m_row (m := b.m) h
  have hrow2 : ∀ i (h : i < b.m.length), (b.m.map sqE)[i]? = some [i64 b.m[i].1] := fun i h => by rw [List.getElem?_map, List.getElem?_eq_getElem h]; rfl
  generalize ofB b = O at *
  unfold bufE at *
  unfold lstE at *
  generalize hm : b.m = m at *
  clear hm hB
  generalize m.map prB = R at *
  generalize m.map sqE = Q at *
  obtain ⟨nn, hnn⟩ : ∃ nn, m.length = nn := ⟨_, rfl⟩
  rw [hnn] at r1 r2 hlen ⊢
  simp only [hnn] at r3 r4
  (try conv=>whnf)<;>repeat'((first|(refine pr ?_;(try conv=>whnf);(fail_if_success (show False)))|exact sNo|refine sT ?_|refine sF ?_|((first|refine sD ?_ ?_|refine sE ?_ ?_|refine sN ?_ ?_|refine sG ?_ ?_)<;>intro ht<;>(first|(cases ht;done)|skip))|refine wr ?_|refine ix ?_|refine ati ?_|refine row ?_|refine app ?_|refine dr ?_|refine VBs.own ?_|refine cp r1 ?_|refine cf r1 ?_|refine cg r1 ?_|refine cz r1 ?_|refine cp r2 ?_|refine cf r2 ?_|refine cg r2 ?_|refine cz r2 ?_|fail)<;>(try conv=>whnf))
  refine VLp.mk ⟨[], [3], [26], fun k vs h => ∃ i : Nat, vs = [i64 i] ∧ h = [.blk 0 (i64 b.self :: i64 b.cn :: .lst nn R :: i64 b.last :: hcE b) 92] ∧ i ≤ nn ∧ k = nn - i, nn, ?_⟩
  conv => whnf
  refine ⟨⟨0, rfl, rfl, by omega, by omega⟩, ?_⟩
  rintro k vs h ⟨i, rfl, rfl, hi, rfl⟩
  by_cases hin : i < nn
  · have h1 := hrow i (by omega)
    have h2 := hrow2 i (by omega)
    (try conv=>whnf)<;>repeat'((first|(refine pr ?_;(try conv=>whnf);(fail_if_success (show False)))|exact sNo|refine sT ?_|refine sF ?_|((first|refine sD ?_ ?_|refine sE ?_ ?_|refine sN ?_ ?_|refine sG ?_ ?_)<;>intro ht<;>(first|(cases ht;done)|skip))|refine wr ?_|refine ix ?_|refine ati ?_|refine row ?_|refine app ?_|refine dr ?_|refine VBs.own ?_|fail)<;>(try conv=>whnf))
    all_goals exact VRd.mk rfl ⟨nn - (i + 1), by omega, i + 1, rfl, rfl, by omega, rfl⟩
  · (try conv=>whnf)<;>repeat'((first|exact sNo|refine sT ?_|refine sF ?_|((first|refine sD ?_ ?_|refine sE ?_ ?_|refine sN ?_ ?_|refine sG ?_ ?_)<;>intro ht<;>(first|(cases ht;done)|skip))|refine wr ?_|refine ix ?_|refine ati ?_|refine row ?_|refine app ?_|refine dr ?_|refine VBs.own ?_|fail)<;>(try conv=>whnf))
    refine VLp.mk ⟨[], [3], [41], fun k vs h => ∃ i : Nat, vs = [i64 i] ∧ h = [.blk 0 (i64 b.self :: i64 b.cn :: .lst nn R :: i64 b.last :: hcE b) 92] ∧ i ≤ 6 ∧ k = 6 - i, 6, ?_⟩
    conv => whnf
    refine ⟨⟨0, rfl, rfl, by omega, by omega⟩, ?_⟩
    rintro k vs h ⟨i, rfl, rfl, hi, rfl⟩
    by_cases hin : i < 6
    · have q1 := r3 ((i : Int) - 1)
      have q2 := r4 ((i : Int) - 1)
      generalize O ((i : Int) - 1) = f at *
      unfold vecE at *
      (try conv=>whnf)<;>repeat'((first|refine sF ?_ (vec_same _)|(refine pr ?_;(try conv=>whnf);(fail_if_success (show False)))|exact sNo|refine sT ?_|refine sF ?_|((first|refine sD ?_ ?_|refine sE ?_ ?_|refine sN ?_ ?_|refine sG ?_ ?_)<;>intro ht<;>(first|(cases ht;done)|skip))|refine wr ?_|refine ix ?_|refine ati ?_|refine row ?_|refine app ?_|refine dr ?_|refine VBs.own ?_|refine cp q1 ?_|refine cf q1 ?_|refine cg q1 ?_|refine cz q1 ?_|refine cp q2 ?_|refine cf q2 ?_|refine cg q2 ?_|refine cz q2 ?_|fail)<;>(try conv=>whnf))
      all_goals exact VRd.mk rfl ⟨6 - (i + 1), by omega, i + 1, rfl, rfl, by omega, rfl⟩
    · (try conv=>whnf)<;>repeat'((first|exact sNo|refine sT ?_|refine sF ?_|((first|refine sD ?_ ?_|refine sE ?_ ?_|refine sN ?_ ?_|refine sG ?_ ?_)<;>intro ht<;>(first|(cases ht;done)|skip))|refine wr ?_|refine ix ?_|refine ati ?_|refine row ?_|refine app ?_|refine dr ?_|refine VBs.own ?_|fail)<;>(try conv=>whnf))
      all_goals rfl
theorem stepS_sub {Q : Bun → Prop} {s : SS} {x : Bun} (h : ∀ b ∈ s.2, Q b) (hx : Q x) : ∀ b ∈ (stepS s x).2, Q b := by
  unfold stepS
  split
  · intro b hb
    rcases List.mem_append.1 hb with hb | hb
    · exact h b hb
    · rw [List.mem_singleton] at hb; subst hb; exact hx
  · exact h
theorem passS_sub {Q : Bun → Prop} : ∀ {L : List Bun} {s : SS}, (∀ b ∈ s.2, Q b) → (∀ b ∈ L, Q b) → ∀ b ∈ (passS L s).2, Q b
  | [], s, h, _ => h
  | x :: L, s, h, hL => passS_sub (L := L) (s := stepS s x) (stepS_sub h (hL x (List.mem_cons_self ..))) fun b hb => hL b (List.mem_cons_of_mem _ hb)
theorem iterS_sub {Q : Bun → Prop} {L : List Bun} {s : SS} (h : ∀ b ∈ s.2, Q b) (hL : ∀ b ∈ L, Q b) : ∀ n, ∀ b ∈ (iterS L n s).2, Q b
  | 0 => h
  | n + 1 => passS_sub (iterS_sub h hL n) hL
theorem forS_Sm {b : Buf} (hB : BI b) (p : Int) (q : Nat) : ∀ x ∈ (forS b p).2.take q, SmB x := fun x hx => by
  refine iterS_sub (Q := SmB) (L := b.m.map (·.2)) (s := (b.has p, [])) (fun b hb => by cases hb) (fun y hy => ?_) b.m.length x (List.mem_of_mem_take hx)
  obtain ⟨z, hz, rfl⟩ := List.mem_map.1 hy
  exact (hB.ok z hz).2
/-! an act -/
abbrev Act24 := Int × Bun × Int × (Int → Int) × Int
def actE24 (a : Act24) : List AV := [.int .u8 a.1, i64 a.2.1.dc, i64 a.2.1.af, i64 a.2.1.la, i64 (a.2.1.dp 0), i64 (a.2.1.dp 1), i64 (a.2.1.dp 2), i64 (a.2.1.dp 3), lstE entE a.2.1.t.es, lstE kidRow a.2.1.t.ks, lstE spE a.2.1.c, i64 a.2.2.1, i64 (a.2.2.2.1 0), i64 (a.2.2.2.1 1), i64 (a.2.2.2.1 2), i64 (a.2.2.2.1 3), i64 a.2.2.2.2]
def actB (b : Buf) (a : Act24) : Buf := if a.1 = 0 then (addBuf b a.2.1).1 else if a.1 = 1 then (hearB b a.2.2.1 a.2.2.2.1).1 else if a.1 = 2 then b else if a.1 = 3 then colB b else clrB b
def fl2 : AV → AV
  | .tup (.agg cs :: r) => .tup (.agg (cs.map flatC) :: r)
  | v => v
theorem fl2_V {E : Env} {v : AV} {u : Value} (h : V E v u) : V E (fl2 v) u := by
  unfold fl2
  split
  · simp only [V, VL] at h ⊢
    obtain ⟨us, rfl, w, us', rfl, ⟨ws, rfl, h1⟩, h2⟩ := h
    exact ⟨_, rfl, _, _, rfl, ⟨_, rfl, flatL_V h1⟩, h2⟩
  · exact h
theorem AFn.fl2 {P : Program} {f : FuncId} {args : List AV} {h : List AP} {R R' : AV → List AP → Prop} (ha : AFn P f args h R) (hR : ∀ r h', R r h' → R' (fl2 r) (flatH h')) : AFn P f args h R' := by
  intro E vs L hnx hvs hh
  obtain ⟨h1, h2⟩ := ha E vs L hnx hvs hh
  refine ⟨h1, fun w hs => (h2 w hs).mono ?_⟩
  rintro x w' ⟨v, H', O, hx, hse, E', r, h', rfl, hE, hv, hh', hn, hr0⟩
  exact ⟨v, E'.H, O, hx, hse, E', _, flatH h', rfl, hE, fl2_V hv, VH_flat hh', by rw [flatH_top]; exact hn, hR r h' hr0⟩
attribute [local irreducible] AFnP AFn AFnR in
theorem act24_o (b : Buf) (a : Act24) (hB : BI b) (hc : 0 ≤ b.cn ∧ b.cn ≤ 4) (hS : SmB a.2.1) (hl : b.last < 1000000) : AFn Tryz.prog 46 [.op 0 0, .agg (bufE b), .agg (actE24 a)] [bufP 0 b] (fun r h' => r = .tup [.agg (bufE (actB b a)), .bool true] ∧ h' = [bufP 0 (actB b a)]) := by
  refine AFn.fl2 (R := fun r h' => Go.Proofs.YtlghgdgpbnlpmaaGreat.fl2 r = .tup [.agg (bufE (actB b a)), .bool true] ∧ flatH h' = [bufP 0 (actB b a)]) ?_ (by rintro r h' ⟨h1, h2⟩; exact ⟨h1, h2⟩)
  refine afn_in ty_ok Tryz.call46 Tryz.func46 rfl rfl (by decide +kernel) ?_
  unfold actE24
  obtain ⟨kd, x, p, v, q⟩ := a
  dsimp only at *
  by_cases k0 : kd = 0
  · have e : actB b (kd, x, p, v, q) = (addBuf b x).1 := by unfold actB; rw [if_pos k0]
    rw [e]
    have q1 := badd_o b x hB hS hl
    have q2 := radd24_a b x hS hB.len ⟨hB.last.1, hl⟩
    generalize (addBuf b x).2.1 = n1 at *
    generalize (addBuf b x).2.2 = n2 at *
    generalize (addBuf b x).1 = b' at *
    clear hB
    unfold bufP bufE at *
    unfold lstE at q1 q2 ⊢
    generalize b.m.map prB = R at *
    generalize b.m.length = nn at *
    generalize b'.m.map prB = R' at *
    generalize b'.m.length = nn' at *
    (try conv=>whnf)<;>repeat'((first|exact sNo|refine sT ?_|refine sF ?_|((first|refine sD ?_ ?_|refine sE ?_ ?_|refine sN ?_ ?_|refine sG ?_ ?_)<;>intro ht<;>(first|(cases ht;done)|skip))|refine wr ?_|refine ix ?_|refine ati ?_|refine row ?_|refine app ?_|refine dr ?_|refine VBs.own ?_|(refine co q1 ?_;rintro r h' ⟨rfl,rfl⟩)|refine cf q2 ?_|refine cg q2 ?_|refine cz q2 ?_|fail)<;>(try conv=>whnf))
    all_goals exact VRt.mk rfl ⟨rfl, rfl⟩
  by_cases k1 : kd = 1
  · have e : actB b (kd, x, p, v, q) = (hearB b p v).1 := by unfold actB; rw [if_neg k0, if_pos k1]
    rw [e]
    have q1 := bheard_o b p v hc.2
    have q2 := rheard_a b p v hc.2
    generalize (hearB b p v).2 = n2 at *
    generalize (hearB b p v).1 = b' at *
    clear hB
    unfold bufP bufE at *
    unfold lstE at q1 q2 ⊢
    generalize b.m.map prB = R at *
    generalize b.m.length = nn at *
    generalize b'.m.map prB = R' at *
    generalize b'.m.length = nn' at *
    (try conv=>whnf)<;>repeat'((first|exact sNo|refine sT ?_|refine sF ?_|((first|refine sD ?_ ?_|refine sE ?_ ?_|refine sN ?_ ?_|refine sG ?_ ?_)<;>intro ht<;>(first|(cases ht;done)|skip))|refine wr ?_|refine ix ?_|refine ati ?_|refine row ?_|refine app ?_|refine dr ?_|refine VBs.own ?_|(refine co q1 ?_;rintro r h' ⟨rfl,rfl⟩)|refine cf q2 ?_|refine cg q2 ?_|refine cz q2 ?_|fail)<;>(try conv=>whnf))
    all_goals exact VRt.mk rfl ⟨rfl, rfl⟩
  by_cases k2 : kd = 2
  · have e : actB b (kd, x, p, v, q) = b := by unfold actB; rw [if_neg k0, if_neg k1, if_pos k2]
    rw [e]
    cases hf : forOk b p v q
    · have q1 := bfor_no b p v q hf
      have q2 := rfor_no b p v q hf
      have q3 := alike24_a [] (by decide) (fun b hb => by cases hb)
      clear hB
      unfold bufP bufE at *
      unfold lstE at q1 q2 q3 ⊢
      generalize b.m.map prB = R at *
      generalize b.m.length = nn at *
      (try conv=>whnf)<;>repeat'((first|exact sNo|refine sT ?_|refine sF ?_|((first|refine sD ?_ ?_|refine sE ?_ ?_|refine sN ?_ ?_|refine sG ?_ ?_)<;>intro ht<;>(first|(cases ht;done)|skip))|refine wr ?_|refine ix ?_|refine ati ?_|refine row ?_|refine app ?_|refine dr ?_|refine VBs.own ?_|(refine co q1 ?_;rintro r h' ⟨rfl,rfl⟩)|refine cf q2 ?_|refine cg q2 ?_|refine cz q2 ?_|refine cf q3 ?_|refine cg q3 ?_|refine cz q3 ?_|fail)<;>(try conv=>whnf))
      all_goals exact VRt.mk rfl ⟨rfl, rfl⟩
    · have q1 := bfor_o b p v q hB hc.2 hf
      have q2 := rfor_a b p v q hB hc.2 hf
      have q3 := alike24_a ((forS b p).2.take q.toNat) (by unfold forOk at hf; rw [Bool.and_eq_true, decide_eq_true_eq] at hf; have := hf.2; rw [List.length_take]; omega) (forS_Sm hB p q.toNat)
      generalize (forS b p).2.take q.toNat = o at *
      generalize atMost v (forS b p).1 = t at *
      clear hB
      unfold bufP bufE at *
      unfold lstE at q1 q2 q3 ⊢
      generalize b.m.map prB = R at *
      generalize b.m.length = nn at *
      generalize o.map bunE = W at *
      generalize o.length = on at *
      cases t
      all_goals
        (try conv=>whnf)<;>repeat'((first|(refine drx [] [] [4] ?_;(try conv=>whnf);(fail_if_success (show False)))|exact sNo|refine sT ?_|refine sF ?_|((first|refine sD ?_ ?_|refine sE ?_ ?_|refine sN ?_ ?_|refine sG ?_ ?_)<;>intro ht<;>(first|(cases ht;done)|skip))|refine wr ?_|refine ix ?_|refine ati ?_|refine row ?_|refine app ?_|refine dr ?_|refine VBs.own ?_|(refine co q1 ?_;rintro r h' ⟨rfl,rfl⟩)|refine cf q2 ?_|refine cg q2 ?_|refine cz q2 ?_|refine cf q3 ?_|refine cg q3 ?_|refine cz q3 ?_|fail)<;>(try conv=>whnf))
        all_goals exact VRt.mk rfl ⟨rfl, rfl⟩
  by_cases k3 : kd = 3
  · have e : actB b (kd, x, p, v, q) = colB b := by unfold actB; rw [if_neg k0, if_neg k1, if_neg k2, if_pos k3]
    rw [e]
    have q1 := bcol_o b hB hc
    have q2 := rcol_a b hB hc
    generalize colN b = n2 at *
    generalize colB b = b' at *
    clear hB
    unfold bufP bufE at *
    unfold lstE at q1 q2 ⊢
    generalize b.m.map prB = R at *
    generalize b.m.length = nn at *
    generalize b'.m.map prB = R' at *
    generalize b'.m.length = nn' at *
    (try conv=>whnf)<;>repeat'((first|exact sNo|refine sT ?_|refine sF ?_|((first|refine sD ?_ ?_|refine sE ?_ ?_|refine sN ?_ ?_|refine sG ?_ ?_)<;>intro ht<;>(first|(cases ht;done)|skip))|refine wr ?_|refine ix ?_|refine ati ?_|refine row ?_|refine app ?_|refine dr ?_|refine VBs.own ?_|(refine co q1 ?_;rintro r h' ⟨rfl,rfl⟩)|refine cf q2 ?_|refine cg q2 ?_|refine cz q2 ?_|fail)<;>(try conv=>whnf))
    all_goals exact VRt.mk rfl ⟨rfl, rfl⟩
  · have e : actB b (kd, x, p, v, q) = clrB b := by unfold actB; rw [if_neg k0, if_neg k1, if_neg k2, if_neg k3]
    rw [e]
    have q1 := bclear_o b
    unfold clrB at *
    clear hB
    unfold bufP bufE at *
    unfold lstE at q1 ⊢
    generalize b.m.map prB = R at *
    generalize b.m.length = nn at *
    (try conv=>whnf)<;>repeat'((first|exact sNo|refine sT ?_|refine sF ?_|((first|refine sD ?_ ?_|refine sE ?_ ?_|refine sN ?_ ?_|refine sG ?_ ?_)<;>intro ht<;>(first|(cases ht;done)|skip))|refine wr ?_|refine ix ?_|refine ati ?_|refine row ?_|refine app ?_|refine dr ?_|refine VBs.own ?_|(refine co q1 ?_;rintro r h' ⟨rfl,rfl⟩)|fail)<;>(try conv=>whnf))
    all_goals exact VRt.mk rfl ⟨rfl, rfl⟩
end Go.Proofs.YtlghgdgpbnlpmaaGreat
