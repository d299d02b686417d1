/- What is proved: plain buffers: what is put in, what is sent. Conditions: none. -/
import Derived.Test.YtlghgdgpbnlpmaaGreatGka
import Derived.Test.YtlghgdgpbnlpmaaGreatMGb
namespace Go.Proofs.YtlghgdgpbnlpmaaGreat
open Go.RowKit
set_option linter.unusedVariables false
set_option linter.unusedSimpArgs false
theorem beh_up2 (v : Int → Int) (b : Bun) : atMost v (behV v b) = true := by
  refine atMost_iff.2 fun d h0 h4 => ?_
  unfold behV setV mxV mx
  split
  · rename_i hd
    subst hd
    split <;> split <;> omega
  · split <;> omega
structure Buf where
  self : Int
  cn : Int
  m : List (Int × Bun)
  last : Int
  has : Int → Int → Int
def newBuf (s c : Int) : Buf := ⟨s, c, [], 0, fun _ _ => 0⟩
def bufE (b : Buf) : List AV := [i64 b.self, i64 b.cn, lstE prB b.m, i64 b.last, i64 (b.has 0 0), i64 (b.has 0 1), i64 (b.has 0 2), i64 (b.has 0 3), i64 (b.has 1 0), i64 (b.has 1 1), i64 (b.has 1 2), i64 (b.has 1 3), i64 (b.has 2 0), i64 (b.has 2 1), i64 (b.has 2 2), i64 (b.has 2 3), i64 (b.has 3 0), i64 (b.has 3 1), i64 (b.has 3 2), i64 (b.has 3 3)]
/-- what a buffer is -/
structure BI (b : Buf) : Prop where
  ok : ∀ p ∈ b.m, rightB p.2 = true ∧ SmB p.2
  srt : srtM ltI b.m
  le : ∀ p ∈ b.m, 1 ≤ p.1 ∧ p.1 ≤ b.last
  len : b.m.length ≤ 64
  last : 0 ≤ b.last ∧ b.last ≤ 1000000
def addM (m : List (Int × Bun)) (s : Int) (x : Bun) : List (Int × Bun) := if 64 ≤ m.length then (m ++ [(s, x)]).drop 1 else m ++ [(s, x)]
def addBuf (b : Buf) (x : Bun) : Buf × Int × Int := if rightB x = true then ({ b with m := addM b.m (b.last + 1) x, last := b.last + 1 }, b.last + 1, 0) else (b, 0, 1)
theorem put_end {m : List (Int × Bun)} {k : Int} {x : Bun} (h : ∀ p ∈ m, p.1 < k) : putM ltI k x m = m ++ [(k, x)] := by
  have hp : posM ltI k m = m.length := by
    refine posM_uniq (Nat.le_refl _) (fun j hj _ => ?_) (fun j hj h' => absurd hj (by omega))
    have := h _ (List.getElem_mem hj)
    simpa [ltI] using this
  have hf : fndM ltI k m = false := by
    unfold fndM
    rw [get_end (by omega)]
    rfl
  rw [put_no hf, hp, List.take_length, List.drop_length]
theorem del_head {k : Int} {x : Bun} {m : List (Int × Bun)} : delM ltI k ((k, x) :: m) = m := by simp [delM, ltI]
theorem addM_len {m : List (Int × Bun)} (h : m.length ≤ 64) (s : Int) (x : Bun) : (addM m s x).length ≤ 64 := by
  unfold addM
  split
  · simp; omega
  · simp; omega
theorem addM_sub (m : List (Int × Bun)) (s : Int) (x : Bun) : (addM m s x).Sublist (m ++ [(s, x)]) := by
  unfold addM
  split
  · exact List.drop_sublist 1 _
  · exact List.Sublist.refl _
theorem BI.new {s c : Int} : BI (newBuf s c) := ⟨fun p hp => (by cases hp), List.Pairwise.nil, fun p hp => (by cases hp), Nat.zero_le _, Int.le_refl _, by show (0 : Int) ≤ 1000000; decide⟩
theorem BI.app {b : Buf} (h : BI b) (x : Bun) : srtM ltI (b.m ++ [(b.last + 1, x)]) := by
  unfold srtM
  refine List.pairwise_append.2 ⟨h.srt, List.pairwise_singleton _ _, fun p hp q hq => ?_⟩
  rw [List.mem_singleton] at hq
  subst hq
  have := (h.le p hp).2
  simp only [ltI, decide_eq_true_eq]
  omega
theorem BI.add {b : Buf} (h : BI b) {x : Bun} (hx : SmB x) (hl : b.last < 1000000) : BI (addBuf b x).1 := by
  unfold addBuf
  split
  · rename_i hR
    have hsub := addM_sub b.m (b.last + 1) x
    have hlast := h.last
    refine ⟨fun p hp => ?_, (h.app x).sublist hsub, fun p hp => ?_, addM_len h.len _ _, by show 0 ≤ b.last + 1; omega, by show b.last + 1 ≤ 1000000; omega⟩
    · rcases List.mem_append.1 (hsub.subset hp) with hp | hp
      · exact h.ok p hp
      · rw [List.mem_singleton] at hp; subst hp; exact ⟨hR, hx⟩
    · show 1 ≤ p.1 ∧ p.1 ≤ b.last + 1
      rcases List.mem_append.1 (hsub.subset hp) with hp | hp
      · have := h.le p hp; omega
      · rw [List.mem_singleton] at hp; subst hp; dsimp only; omega
  · exact h
/-! what is sent -/
abbrev SS := (Int → Int) × List Bun
def stepS (s : SS) (b : Bun) : SS := if readyB b s.1 = true then (behV s.1 b, s.2 ++ [b]) else s
def passS (L : List Bun) (s : SS) : SS := L.foldl stepS s
def iterS (L : List Bun) : Nat → SS → SS
  | 0, s => s
  | n + 1, s => passS L (iterS L n s)
def pend (L : List Bun) (u : Int → Int) : Nat := L.countP fun b => decide (u b.dc ≤ b.af)
def noneS (L : List Bun) (u : Int → Int) : Prop := ∀ b ∈ L, readyB b u = false
theorem stepS_yes {s : SS} {b : Bun} (h : readyB b s.1 = true) : stepS s b = (behV s.1 b, s.2 ++ [b]) := by unfold stepS; rw [if_pos h]
theorem stepS_no {s : SS} {b : Bun} (h : readyB b s.1 = false) : stepS s b = s := by unfold stepS; rw [if_neg (by rw [h]; decide)]
theorem passS_snoc (L : List Bun) (b : Bun) (s : SS) : passS (L ++ [b]) s = stepS (passS L s) b := by unfold passS; rw [List.foldl_append]; rfl
theorem passS_take {L : List Bun} {i : Nat} (h : i < L.length) (s : SS) : passS (L.take (i + 1)) s = stepS (passS (L.take i) s) L[i] := by rw [← take_snoc h, passS_snoc]
theorem stepS_up (s : SS) (b : Bun) {d : Int} (h0 : 0 ≤ d) (h4 : d < 4) : s.1 d ≤ (stepS s b).1 d := by
  unfold stepS
  split
  · exact atMost_iff.1 (beh_up2 s.1 b) d h0 h4
  · exact Int.le_refl _
theorem passS_up : ∀ (L : List Bun) (s : SS) {d : Int}, 0 ≤ d → d < 4 → s.1 d ≤ (passS L s).1 d
  | [], s, d, _, _ => Int.le_refl _
  | b :: L, s, d, h0, h4 => Int.le_trans (stepS_up s b h0 h4) (passS_up L (stepS s b) h0 h4)
theorem stepS_pre (s : SS) (b : Bun) : ∃ t, (stepS s b).2 = s.2 ++ t := by
  unfold stepS
  split
  · exact ⟨[b], rfl⟩
  · exact ⟨[], by simp⟩
theorem passS_pre : ∀ (L : List Bun) (s : SS), ∃ t, (passS L s).2 = s.2 ++ t
  | [], s => ⟨[], by simp [passS]⟩
  | b :: L, s => by
    obtain ⟨t, ht⟩ := stepS_pre s b
    obtain ⟨t', ht'⟩ := passS_pre L (stepS s b)
    exact ⟨t ++ t', by show (passS L (stepS s b)).2 = _; rw [ht', ht, List.append_assoc]⟩
theorem passS_none : ∀ {L : List Bun} {s : SS}, noneS L s.1 → passS L s = s
  | [], s, _ => rfl
  | b :: L, s, h => by
    show passS L (stepS s b) = s
    rw [stepS_no (h b (List.mem_cons_self ..))]
    exact passS_none fun x hx => h x (List.mem_cons_of_mem _ hx)
theorem passS_len (L : List Bun) (s : SS) : s.2.length ≤ (passS L s).2.length := by
  obtain ⟨t, ht⟩ := passS_pre L s
  rw [ht, List.length_append]
  omega
/-- a pass that sends nothing found nothing ready -/
theorem passS_some : ∀ {L : List Bun} {s : SS}, (passS L s).2.length = s.2.length → noneS L s.1
  | [], s, _ => fun b hb => by cases hb
  | b :: L, s, h => by
    have h : (passS L (stepS s b)).2.length = s.2.length := h
    cases hr : readyB b s.1
    · rw [stepS_no hr] at h
      intro x hx
      rcases List.mem_cons.1 hx with rfl | hx
      · exact hr
      · exact passS_some h x hx
    · rw [stepS_yes hr] at h
      have := passS_len L (behV s.1 b, s.2 ++ [b])
      simp at this
      omega
theorem countP_lt2 {α : Type} {p q : α → Bool} : ∀ {l : List α}, (∀ x ∈ l, p x = true → q x = true) → (∃ x ∈ l, q x = true ∧ p x = false) → l.countP p < l.countP q
  | [], _, ⟨x, hx, _⟩ => by cases hx
  | y :: l, h, ⟨x, hx, h1, h2⟩ => by
    have hl : ∀ x ∈ l, p x = true → q x = true := fun x hx => h x (List.mem_cons_of_mem _ hx)
    have hm : l.countP p ≤ l.countP q := List.countP_mono_left hl
    rcases List.mem_cons.1 hx with rfl | hx
    · simp only [List.countP_cons, h1, h2]
      simp
      omega
    · have := countP_lt2 hl ⟨x, hx, h1, h2⟩
      have hy := h y (List.mem_cons_self ..)
      simp only [List.countP_cons]
      cases hp : p y
      · simp; omega
      · rw [hy hp]; simp; omega
theorem ready_nums {b : Bun} {v : Int → Int} (h : readyB b v = true) : rightB b = true ∧ v b.dc = b.af := by
  unfold readyB at h
  simp only [Bool.and_eq_true, decide_eq_true_eq] at h
  exact ⟨h.1, h.2.1⟩
theorem beh_at {b : Bun} {v : Int → Int} : b.la ≤ behV v b b.dc := by
  unfold behV
  rw [setV_same]
  unfold mx
  split <;> omega
/-- a pass that sends something -/
theorem passS_pend {L0 : List Bun} (hR : ∀ b ∈ L0, rightB b = true) : ∀ {L : List Bun} {s : SS}, (∀ b ∈ L, b ∈ L0) → (passS L s).2.length ≠ s.2.length → pend L0 (passS L s).1 < pend L0 s.1
  | [], s, _, h => absurd rfl h
  | b :: L, s, hs, h => by
    have hb := hs b (List.mem_cons_self ..)
    have hd := (right_nums (hR b hb)).1.1
    cases hr : readyB b s.1
    · have e : passS (b :: L) s = passS L s := by show passS L (stepS s b) = _; rw [stepS_no hr]
      rw [e] at h ⊢
      exact passS_pend hR (fun x hx => hs x (List.mem_cons_of_mem _ hx)) h
    · have hn := ready_nums hr
      refine countP_lt2 (fun x hx hp => ?_) ⟨b, hb, ?_, ?_⟩
      · have hxd := (right_nums (hR x hx)).1.1
        have := passS_up (b :: L) s hxd.1 hxd.2
        simp only [decide_eq_true_eq] at hp ⊢
        omega
      · simp only [decide_eq_true_eq]; omega
      · have h1 : (stepS s b).1 b.dc ≤ (passS (b :: L) s).1 b.dc := passS_up L (stepS s b) hd.1 hd.2
        rw [stepS_yes hr] at h1
        have h2 := beh_at (b := b) (v := s.1)
        have h3 := (right_nums (hR b hb)).1.2
        simp only [decide_eq_false_iff_not]
        dsimp only at h1
        omega
theorem ready_pend {L : List Bun} {u : Int → Int} (h : pend L u = 0) : noneS L u := fun b hb => by
  unfold pend at h
  rw [List.countP_eq_zero] at h
  cases hr : readyB b u
  · rfl
  · have := (ready_nums hr).2
    have := h b hb
    simp only [decide_eq_true_eq] at this
    omega
theorem iterS_stay {L : List Bun} {s : SS} {j : Nat} (h : noneS L (iterS L j s).1) : ∀ n, j ≤ n → iterS L n s = iterS L j s
  | n, hn => by
    induction n with
    | zero => obtain rfl : j = 0 := by omega
              rfl
    | succ n ih =>
      rcases Nat.lt_or_eq_of_le hn with hlt | rfl
      · rw [iterS, ih (by omega)]
        exact passS_none h
      · rfl
theorem iterS_pend {L : List Bun} (hR : ∀ b ∈ L, rightB b = true) (s : SS) : ∀ n, noneS L (iterS L n s).1 ∨ pend L (iterS L n s).1 + n ≤ pend L s.1
  | 0 => .inr (by simp [iterS])
  | n + 1 => by
    rcases iterS_pend hR s n with h | h
    · left
      rw [iterS, passS_none h]
      exact h
    · by_cases hp : (passS L (iterS L n s)).2.length = (iterS L n s).2.length
      · have h2 := passS_some hp
        left
        rw [iterS, passS_none h2]
        exact h2
      · right
        have := passS_pend hR (L := L) (s := iterS L n s) (fun b hb => hb) hp
        rw [iterS]
        omega
/-- after as many passes as there are bundles nothing is ready -/
theorem iterS_done {L : List Bun} (hR : ∀ b ∈ L, rightB b = true) (s : SS) : noneS L (iterS L L.length s).1 := by
  rcases iterS_pend hR s L.length with h | h
  · exact h
  · refine ready_pend ?_
    have : pend L s.1 ≤ L.length := List.countP_le_length
    omega
theorem iterS_same {L : List Bun} (hR : ∀ b ∈ L, rightB b = true) {s : SS} {j : Nat} (h : noneS L (iterS L j s).1) : iterS L j s = iterS L L.length s := by
  rcases Nat.le_total j L.length with hj | hj
  · exact (iterS_stay h L.length hj).symm
  · exact iterS_stay (iterS_done hR s) j hj
end Go.Proofs.YtlghgdgpbnlpmaaGreat
/- What is proved: what the small methods of buffers answer and do. Conditions: none. -/
namespace Go.Proofs.YtlghgdgpbnlpmaaGreat
open Go.RowKit
set_option linter.unusedVariables false
set_option linter.unusedSimpArgs false
set_option maxRecDepth 100000
set_option maxHeartbeats 100000000
abbrev bufP (id : Nat) (b : Buf) : AP := .blk id (bufE b) 137
abbrev hrE (f : Int → Int) : List AV := [i64 (f 0), i64 (f 1), i64 (f 2), i64 (f 3)]
/-- what others are known to have, as cells -/
abbrev hcE (b : Buf) : List AV := hrE (b.has 0) ++ (hrE (b.has 1) ++ (hrE (b.has 2) ++ hrE (b.has 3)))
/-- nil cells of blocks that come out, as empty lists -/
theorem flatH_top (h : List AP) : ∀ n, topN (flatH h) n = topN h n := by
  induction h with
  | nil => intro n; rfl
  | cons p h ih =>
    intro n
    have e : (flatP p).id = p.id := by cases p <;> rfl
    show topN (flatP p :: flatH h) n = _
    rw [topN, topN, e, ih]
theorem AFn.fl {P : Program} {f : FuncId} {args : List AV} {h : List AP} {R R' : AV → List AP → Prop} (ha : AFn P f args h R) (hR : ∀ r h', R r h' → R' r (flatH h')) : AFn P f args h R' := by
  intro E vs L hnx hvs hh
  obtain ⟨h1, h2⟩ := ha E vs L hnx hvs hh
  refine ⟨h1, fun w hs => (h2 w hs).mono ?_⟩
  rintro x w' ⟨v, H', O, hx, hse, E', r, h', rfl, hE, hv, hh', hn, hr0⟩
  exact ⟨v, E'.H, O, hx, hse, E', r, flatH h', rfl, hE, hv, VH_flat hh', by rw [flatH_top]; exact hn, hR r h' hr0⟩
def newOk (s c : Int) : Bool := decide (1 ≤ c ∧ c ≤ 4 ∧ 0 ≤ s ∧ s < c)
theorem bnew_t {s c : Int} (h : newOk s c = true) : AFn Tryz.prog 43 [i64 s, i64 c] [] (fun r h' => r = .tup [.op 0 0, i64 0] ∧ h' = [bufP 0 (newBuf s c)]) := by
  have h := of_decide_eq_true h
  refine AFn.fl (R := fun r h' => r = .tup [.op 0 0, i64 0] ∧ h' = [.blk 0 [i64 s, i64 c, .nils, i64 0, i64 0, i64 0, i64 0, i64 0, i64 0, i64 0, i64 0, i64 0, i64 0, i64 0, i64 0, i64 0, i64 0, i64 0, i64 0, i64 0] 137]) ?_ (by rintro r h' ⟨rfl, rfl⟩; exact ⟨rfl, rfl⟩)
  refine afn_in ty_ok Tryz.call43 Tryz.func43 rfl rfl (by decide +kernel) ?_
  (try conv=>whnf)<;>repeat'((first|exact sNo|refine sT ?_|refine sF ?_|((first|refine sD ?_ ?_|refine sE ?_ ?_|refine sN ?_ ?_|refine sG ?_ ?_)<;>intro ht<;>(first|(cases ht;done)|skip))|refine wr ?_|refine ix ?_|refine ati ?_|refine row ?_|refine app ?_|refine dr ?_|refine VBs.own ?_|fail)<;>(try conv=>whnf))
  all_goals exact VRt.mk rfl ⟨rfl, rfl⟩
theorem bnew_f {s c : Int} (h : newOk s c = false) : AFn Tryz.prog 43 [i64 s, i64 c] [] (fun r h' => r = .tup [.nilp, i64 1] ∧ h' = []) := by
  have h := of_decide_eq_false h
  refine afn_in ty_ok Tryz.call43 Tryz.func43 rfl rfl (by decide +kernel) ?_
  (try conv=>whnf)<;>repeat'((first|exact sNo|refine sT ?_|refine sF ?_|((first|refine sD ?_ ?_|refine sE ?_ ?_|refine sN ?_ ?_|refine sG ?_ ?_)<;>intro ht<;>(first|(cases ht;done)|skip))|refine wr ?_|refine ix ?_|refine ati ?_|refine row ?_|refine app ?_|refine dr ?_|refine VBs.own ?_|fail)<;>(try conv=>whnf))
  all_goals exact VRt.mk rfl ⟨rfl, rfl⟩
def peerB (b : Buf) (n : Int) : Bool := decide (0 ≤ n ∧ n < b.cn ∧ n ≠ b.self)
theorem bpeer_a (b : Buf) (n : Int) : AFnP Tryz.prog 74 [.fp (bufE b) 0, i64 n] (.bool (peerB b n)) := by
  refine afp ty_ok Tryz.call74 Tryz.func74 ?_
  unfold peerB bufE lstE
  generalize b.m.map prB = R at *
  generalize b.m.length = nn at *
  (try conv=>whnf)<;>repeat'((first|exact sNo|refine sT ?_|refine sF ?_|((first|refine sD ?_ ?_|refine sE ?_ ?_|refine sN ?_ ?_|refine sG ?_ ?_)<;>intro ht<;>(first|(cases ht;done)|skip))|refine wr ?_|refine ix ?_|refine ati ?_|refine row ?_|refine app ?_|refine dr ?_|refine VBs.own ?_|fail)<;>(try conv=>whnf))
  all_goals (refine congrArg AV.bool ?_; first | (rw [decide_eq_true (by omega)]; done) | (rw [decide_eq_false (by omega)]; done))
theorem bpeer_p {b : Buf} {n : Int} {t : Bool} (h : peerB b n = t) : AFnP Tryz.prog 74 [.fp (bufE b) 0, i64 n] (.bool t) := by subst h; exact bpeer_a b n
theorem bvec_a (v : Int → Int) : AFnP Tryz.prog 75 [vecE v] (.bool (mayV v)) := by
  refine afp ty_ok Tryz.call75 Tryz.func75 ?_
  have r1 := cfull_a v
  unfold fullE at r1
  cases h : mayV v
  · rw [h] at r1
    (try conv=>whnf)<;>repeat'((first|exact sNo|refine sT ?_|refine sF ?_|((first|refine sD ?_ ?_|refine sE ?_ ?_|refine sN ?_ ?_|refine sG ?_ ?_)<;>intro ht<;>(first|(cases ht;done)|skip))|refine wr ?_|refine ix ?_|refine ati ?_|refine row ?_|refine app ?_|refine dr ?_|refine VBs.own ?_|refine cf r1 ?_|refine cg r1 ?_|refine cz r1 ?_|fail)<;>(try conv=>whnf))
    all_goals rfl
  · rw [h] at r1
    generalize fullC v = C at *
    (try conv=>whnf)<;>repeat'((first|exact sNo|refine sT ?_|refine sF ?_|((first|refine sD ?_ ?_|refine sE ?_ ?_|refine sN ?_ ?_|refine sG ?_ ?_)<;>intro ht<;>(first|(cases ht;done)|skip))|refine wr ?_|refine ix ?_|refine ati ?_|refine row ?_|refine app ?_|refine dr ?_|refine VBs.own ?_|refine cf r1 ?_|refine cg r1 ?_|refine cz r1 ?_|fail)<;>(try conv=>whnf))
    all_goals rfl
theorem bvec_p {v : Int → Int} {t : Bool} (h : mayV v = t) : AFnP Tryz.prog 75 [vecE v] (.bool t) := by subst h; exact bvec_a v
/-- what another center is known to have -/
def ofB (b : Buf) (n : Int) : Int → Int := fun k => if peerB b n = true then b.has n k else 0
theorem peer_four {b : Buf} (hc : b.cn ≤ 4) {n : Int} (h : peerB b n = true) : (n = 0 ∧ n = ((0 : Nat) : Int)) ∨ (n = 1 ∧ n = ((1 : Nat) : Int)) ∨ (n = 2 ∧ n = ((2 : Nat) : Int)) ∨ (n = 3 ∧ n = ((3 : Nat) : Int)) := by
  have := of_decide_eq_true h
  omega
theorem bhas_a (b : Buf) (hc : b.cn ≤ 4) (n : Int) : AFnP Tryz.prog 38 [.fp (bufE b) 0, i64 n] (vecE (ofB b n)) := by
  refine afp ty_ok Tryz.call38 Tryz.func38 ?_
  have r1 := bpeer_a b n
  unfold vecE ofB
  unfold bufE at *
  unfold lstE at *
  generalize b.m.map prB = R at *
  generalize b.m.length = nn at *
  cases h : peerB b n
  · rw [h] at r1
    (try conv=>whnf)<;>repeat'((first|exact sNo|refine sT ?_|refine sF ?_|((first|refine sD ?_ ?_|refine sE ?_ ?_|refine sN ?_ ?_|refine sG ?_ ?_)<;>intro ht<;>(first|(cases ht;done)|skip))|refine wr ?_|refine ix ?_|refine ati ?_|refine row ?_|refine app ?_|refine dr ?_|refine VBs.own ?_|refine cf r1 ?_|refine cg r1 ?_|refine cz r1 ?_|fail)<;>(try conv=>whnf))
    all_goals rfl
  · rw [h] at r1
    have hp := peer_four hc h
    simp only [if_true]
    rcases hp with ⟨hn', hn⟩ | ⟨hn', hn⟩ | ⟨hn', hn⟩ | ⟨hn', hn⟩
    all_goals
      (try conv=>whnf)<;>repeat'((first|exact sNo|refine sT ?_|refine sF ?_|((first|refine sD ?_ ?_|refine sE ?_ ?_|refine sN ?_ ?_|refine sG ?_ ?_)<;>intro ht<;>(first|(cases ht;done)|skip))|refine wr ?_|refine ix ?_|refine ati ?_|refine row ?_|refine app ?_|refine dr ?_|refine VBs.own ?_|refine cf r1 ?_|refine cg r1 ?_|refine cz r1 ?_|fail)<;>(try conv=>whnf))
      all_goals (rw [hn'])
theorem blen_a (b : Buf) : AFnP Tryz.prog 41 [.fp (bufE b) 0] (i64 (b.m.length : Nat)) := by
  refine afp ty_ok Tryz.call41 Tryz.func41 ?_
  have r1 := lenB_a b.m
  unfold bufE
  unfold lstE at r1 ⊢
  generalize b.m.map prB = R at *
  generalize b.m.length = nn at *
  (try conv=>whnf)<;>repeat'((first|exact sNo|refine sT ?_|refine sF ?_|((first|refine sD ?_ ?_|refine sE ?_ ?_|refine sN ?_ ?_|refine sG ?_ ?_)<;>intro ht<;>(first|(cases ht;done)|skip))|refine wr ?_|refine ix ?_|refine ati ?_|refine row ?_|refine app ?_|refine dr ?_|refine VBs.own ?_|refine cf r1 ?_|refine cg r1 ?_|refine cz r1 ?_|fail)<;>(try conv=>whnf))
  all_goals rfl
end Go.Proofs.YtlghgdgpbnlpmaaGreat
/- What is proved: adding to a buffer, its numbers. Conditions: none. -/
namespace Go.Proofs.YtlghgdgpbnlpmaaGreat
open Go.RowKit
set_option linter.unusedVariables false
set_option linter.unusedSimpArgs false
set_option maxRecDepth 100000
set_option maxHeartbeats 100000000
attribute [local irreducible] AFnP AFn AFnR
theorem drop_one {α : Type} {l : List α} (h : 0 < l.length) : ∃ x t, l = x :: t := by
  cases l with
  | nil => exact absurd h (by simp)
  | cons x t => exact ⟨x, t, rfl⟩
theorem badd_o (b : Buf) (x : Bun) (hB : BI b) (hx : SmB x) (hl : b.last < 1000000) : AFn Tryz.prog 47 [.op 0 0, .agg (bunE x)] [bufP 0 b] (fun r h' => r = .tup [i64 (addBuf b x).2.1, i64 (addBuf b x).2.2] ∧ h' = [bufP 0 (addBuf b x).1]) := by
  refine afn_in ty_ok Tryz.call47 Tryz.func47 rfl rfl (by decide +kernel) ?_
  unfold bufP bufE addBuf
  have hlast := hB.last
  have hlen := hB.len
  cases hR : rightB x
  · have r1 := bright_p hx hR
    rw [if_neg (by decide)]
    dsimp only
    unfold lstE at *
    generalize b.m.map prB = R at *
    generalize b.m.length = nn at *
    (try conv=>whnf)<;>repeat'((first|exact sNo|refine sT ?_|refine sF ?_|((first|refine sD ?_ ?_|refine sE ?_ ?_|refine sN ?_ ?_|refine sG ?_ ?_)<;>intro ht<;>(first|(cases ht;done)|skip))|refine wr ?_|refine ix ?_|refine ati ?_|refine row ?_|refine app ?_|refine dr ?_|refine VBs.own ?_|refine cf r1 ?_|refine cg r1 ?_|refine cz r1 ?_|fail)<;>(try conv=>whnf))
    all_goals exact VRt.mk rfl ⟨rfl, rfl⟩
  · have r1 := bright_p hx hR
    rw [if_pos rfl]
    have r2 := bclone_t x hx hR
    have r3 := putB_a b.m (by omega) hB.srt (b.last + 1) x
    have hp : ∀ p ∈ b.m, p.1 < b.last + 1 := fun p hp => by have := hB.le p hp; omega
    rw [put_end hp] at r3
    have hs := hB.app x
    have r4 := lenB_a (b.m ++ [(b.last + 1, x)])
    rw [List.length_append, List.length_singleton] at r4
    have hl2 : (b.m ++ [(b.last + 1, x)]).length = b.m.length + 1 := by simp
    dsimp only
    unfold addM
    by_cases h64 : 64 ≤ b.m.length
    · rw [if_pos h64]
      have r5 := allB_a (b.m ++ [(b.last + 1, x)]) (by omega)
      obtain ⟨p, t, hpt⟩ := drop_one (l := b.m ++ [(b.last + 1, x)]) (by omega)
      have r6 := delB_a (b.m ++ [(b.last + 1, x)]) (by omega) hs p.1
      have e : delM ltI p.1 (b.m ++ [(b.last + 1, x)]) = (b.m ++ [(b.last + 1, x)]).drop 1 := by rw [hpt]; exact del_head
      have hrow : ((b.m ++ [(b.last + 1, x)]).map prB)[0]? = some (i64 p.1 :: bunE p.2) := by rw [hpt]; rfl
      rw [e] at r6
      clear e hpt
      have hn := hl2
      generalize hM : b.m ++ [(b.last + 1, x)] = M at *
      generalize M.drop 1 = M1 at *
      unfold lstE at *
      generalize b.m.length = nn at *
      generalize b.m.map prB = c at *
      clear hM hs hn
      generalize M.map prB = Q at *
      (try conv=>whnf)<;>repeat'((first|(refine drx [1009,1010,1011,1013,2000] [] [] ?_;(try conv=>whnf);(fail_if_success (show False)))|exact sNo|refine sT ?_|refine sF ?_|((first|refine sD ?_ ?_|refine sE ?_ ?_|refine sN ?_ ?_|refine sG ?_ ?_)<;>intro ht<;>(first|(cases ht;done)|skip))|refine wr ?_|refine ix ?_|refine ati ?_|refine row ?_|refine app ?_|refine dr ?_|refine VBs.own ?_|refine VAnd.mk ?_ ?_|refine cp r1 ?_|refine cf r1 ?_|refine cg r1 ?_|refine cz r1 ?_|refine cp r2 ?_|refine cf r2 ?_|refine cg r2 ?_|refine cz r2 ?_|refine cp r3 ?_|refine cf r3 ?_|refine cg r3 ?_|refine cz r3 ?_|refine cp r4 ?_|refine cf r4 ?_|refine cg r4 ?_|refine cz r4 ?_|refine cp r5 ?_|refine cf r5 ?_|refine cg r5 ?_|refine cz r5 ?_|refine cp r6 ?_|refine cf r6 ?_|refine cg r6 ?_|refine cz r6 ?_|fail)<;>(try conv=>whnf))
      all_goals exact VRt.mk rfl ⟨rfl, rfl⟩
    · rw [if_neg h64]
      generalize b.m ++ [(b.last + 1, x)] = M at *
      have hnn := hlen
      unfold lstE at *
      generalize b.m.length = nn at *
      generalize b.m.map prB = R at *
      (try conv=>whnf)<;>repeat'((first|(refine drx [1010,1011,2000] [] [] ?_;(try conv=>whnf);(fail_if_success (show False)))|exact sNo|refine sT ?_|refine sF ?_|((first|refine sD ?_ ?_|refine sE ?_ ?_|refine sN ?_ ?_|refine sG ?_ ?_)<;>intro ht<;>(first|(cases ht;done)|skip))|refine wr ?_|refine ix ?_|refine ati ?_|refine row ?_|refine app ?_|refine dr ?_|refine VBs.own ?_|refine VAnd.mk ?_ ?_|refine cp r1 ?_|refine cf r1 ?_|refine cg r1 ?_|refine cz r1 ?_|refine cp r2 ?_|refine cf r2 ?_|refine cg r2 ?_|refine cz r2 ?_|refine cp r3 ?_|refine cf r3 ?_|refine cg r3 ?_|refine cz r3 ?_|refine cp r4 ?_|refine cf r4 ?_|refine cg r4 ?_|refine cz r4 ?_|fail)<;>(try conv=>whnf))
      all_goals exact VRt.mk rfl ⟨rfl, rfl⟩
def sqE (p : Int × Bun) : List AV := [i64 p.1]
theorem m_row {m : List (Int × Bun)} {i : Nat} (h : i < m.length) : (m.map prB)[i]? = some (i64 m[i].1 :: bunE m[i].2) := by rw [List.getElem?_map, List.getElem?_eq_getElem h]; rfl
theorem bseqs_a (b : Buf) (hB : BI b) : AFnP Tryz.prog 53 [.fp (bufE b) 0] (lstE sqE b.m) := by
  refine afnp_in ty_ok Tryz.call53 Tryz.func53 rfl rfl (by decide +kernel) ?_
  have hlen := hB.len
  have r1 := allB_a b.m (by omega)
  have hrow := fun i (h : i < b.m.length) => m_row (m := b.m) h
  unfold bufE
  generalize b.m = m at *
  unfold lstE at r1 ⊢
  generalize hR : m.map prB = R at *
  obtain ⟨n, hn⟩ : ∃ n, m.length = n := ⟨_, rfl⟩
  rw [hn] at r1 hlen ⊢
  (try conv=>whnf)<;>repeat'((first|exact sNo|refine sT ?_|refine sF ?_|((first|refine sD ?_ ?_|refine sE ?_ ?_|refine sN ?_ ?_|refine sG ?_ ?_)<;>intro ht<;>(first|(cases ht;done)|skip))|refine wr ?_|refine ix ?_|refine ati ?_|refine row ?_|refine app ?_|refine dr ?_|refine VBs.own ?_|refine cf r1 ?_|refine cg r1 ?_|refine cz r1 ?_|fail)<;>(try conv=>whnf))
  refine VLp.mk ⟨[.slot 3 2 1], [], [3, 14], fun k vs h => ∃ i : Nat, vs = [.own 0 i, i64 i] ∧ h = [.row 0 2 1 ((m.take i).map sqE)] ∧ i ≤ n ∧ k = n - i, n, ?_⟩
  conv => whnf
  refine ⟨⟨0, rfl, rfl, by omega, by omega⟩, ?_⟩
  rintro k vs h ⟨i, rfl, rfl, hi, rfl⟩
  by_cases hin : i < n
  · have hr := hrow i (by omega)
    have ht : (m.take i).map sqE ++ [sqE (m[i]'(by omega))] = (m.take (i + 1)).map sqE := by rw [← take_snoc (by omega), List.map_append]; rfl
    (try conv=>whnf)<;>repeat'((first|exact sNo|refine sT ?_|refine sF ?_|((first|refine sD ?_ ?_|refine sE ?_ ?_|refine sN ?_ ?_|refine sG ?_ ?_)<;>intro ht<;>(first|(cases ht;done)|skip))|refine wr ?_|refine ix ?_|refine ati ?_|refine row ?_|refine app ?_|refine dr ?_|refine VBs.own ?_|fail)<;>(try conv=>whnf))
    all_goals exact VRd.mk rfl ⟨n - (i + 1), by omega, i + 1, rfl, by rw [← ht]; rfl, by omega, rfl⟩
  · obtain rfl : i = n := by omega
    rw [← hn, List.take_length]
    (try conv=>whnf)<;>repeat'((first|exact sNo|refine sT ?_|refine sF ?_|((first|refine sD ?_ ?_|refine sE ?_ ?_|refine sN ?_ ?_|refine sG ?_ ?_)<;>intro ht<;>(first|(cases ht;done)|skip))|refine wr ?_|refine ix ?_|refine ati ?_|refine row ?_|refine app ?_|refine dr ?_|refine VBs.own ?_|fail)<;>(try conv=>whnf))
    all_goals rfl
end Go.Proofs.YtlghgdgpbnlpmaaGreat
