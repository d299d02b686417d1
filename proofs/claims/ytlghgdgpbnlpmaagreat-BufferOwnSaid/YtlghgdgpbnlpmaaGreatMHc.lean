/- What is proved: a part of an own slice, read when all is frozen. Conditions: none. -/
import Derived.Test.YtlghgdgpbnlpmaaGreatWk
import Derived.Test.YtlghgdgpbnlpmaaGreatMHb
import Derived.Test.YtlghgdgpbnlpmaaGreatMGc
import Derived.Test.YtlghgdgpbnlpmaaGreatEn
namespace Go.Proofs.YtlghgdgpbnlpmaaGreat
open Go.RowKit
set_option linter.unusedVariables false
def rowK (h : List AP) (id : Nat) : Option (Nat × List (List AV)) := match pos id h with | some (_, .row _ _ k rows) => some (k, rows) | _ => none
def subL (h : List AP) (id k lo n : Nat) : AV := match rowK h id with
  | some (k', rows) => bif Nat.beq k' k && Nat.ble (lo + n) rows.length then .lst n ((rows.drop lo).take n) else .junk
  | none => .junk
def fzS (h : List AP) : Tr where
  own := (fz1 h).own
  op := (fz1 h).op
  orp := (fz1 h).orp
  sub id k lo n _ _ := subL h id k lo n
  nils := .lst 0 []
theorem frz_sub {E : Env} {h : List AP} {L : List Piece} {H' : Hp} (f : Frz E h L H') {id k lo n C : Nat} {w : Bool} {v : Value} (hv : V E (.sub id k lo n C w) v) : V (Env.fz H') (subL h id k lo n) v := by
  unfold subL rowK
  cases hp : pos id h with
  | none => simp only [V]
  | some x =>
    obtain ⟨i, p⟩ := x
    cases p with
    | blk id' cs T => simp only [V]
    | bag id' rs => simp only [V]
    | row id' El k' rows =>
      dsimp only
      cases hb : (Nat.beq k' k && Nat.ble (lo + n) rows.length) with
      | false => simp only [cond_false, V]
      | true =>
        rw [cond_true]
        rw [Bool.and_eq_true] at hb
        obtain rfl := Nat.eq_of_beq_eq_true hb.1
        have hle := Nat.le_of_ble_eq_true hb.2
        obtain ⟨hid, hi, q, hq, hvp⟩ := pos_spec f.hl hp
        simp only [AP.id] at hid
        subst hid
        simp only [V] at hv
        obtain ⟨h1, b, N, a, hg, rfl, h4, h5, _⟩ := hv
        simp only [VP] at hvp
        obtain ⟨_, _, rs, rfl, hrs⟩ := hvp
        obtain ⟨w', ⟨hown, hlen⟩, hH⟩ := f.hp _ (List.mem_of_getElem? hq)
        have hl := VLL_len hrs
        obtain ⟨a', c', h2, h3, h6, _⟩ := own_form hown
        rw [hg] at h2
        cases h2
        simp only [V]
        refine ⟨a, C - lo, k', rfl, by simp; omega, by omega, by omega, VR_mk fun j r hr => ?_⟩
        have hjn : j < n := by
          have := (List.getElem?_eq_some_iff.1 hr).1
          rw [List.length_take] at this
          omega
        rw [List.getElem?_take_of_lt hjn, List.getElem?_drop] at hr
        obtain ⟨us, hus, hvl⟩ := VLL_get hrs hr
        have hk : us.length = k' := hlen us (List.mem_of_getElem? hus)
        refine ⟨_, us, h5 (by omega), by rw [← VL_len hvl, hk], ?_, hvl.mono (Env.le.fz f.H)⟩
        rw [Nat.zero_add, add_add, ← Nat.add_mul]
        refine At_cells (hH b (by simp [Piece.hasB, Value.ownBlock, hg])) fun x u hu => ?_
        exact hown.cells (g := b) (by rw [hg]; rfl) _ _ (flatten_at hlen hus hu)
theorem fzS_ok {E : Env} {h : List AP} {L : List Piece} {H' : Hp} (f : Frz E h L H') : TrOk (fzS h) E (Env.fz H') where
  H := f.H
  own := (fz1_ok f).own
  op := (fz1_ok f).op
  orp := (fz1_ok f).orp
  sub id k lo n C w v hv := frz_sub f hv
  nils := (fz1_ok f).nils
theorem AFn.frzP {P : Program} {f : FuncId} {args : List AV} {R : AV → List AP → Prop} {r0 : AV} (ha : AFn P f args [] R) (hR : ∀ r h', R r h' → tr (fzS h') r = r0) : AFnP P f args r0 := by
  intro H vs hvs
  obtain ⟨h1, h2⟩ := ha (Env.fz H) vs [] rfl hvs (by simp only [VH])
  refine ⟨h1, fun w hs => (h2 w hs).mono ?_⟩
  rintro x w' ⟨v, H', O, hx, hse, E', r, h', rfl, hE, hv, hh', hn, hr0⟩
  obtain ⟨H'', h7, h8, h9⟩ := freezeAll O (L2 := []) (by simpa using hse)
  refine ⟨v, H'', [], hx, h8, ?_⟩
  rw [← hR r h' hr0]
  exact V_tr (fzS_ok ⟨h7, hh', fun p hp => ⟨w', hse.holds p hp, h9 p hp⟩⟩) _ _ hv
theorem fzS_sub {T k lo n C : Nat} {w : Bool} {rows : List (List AV)} (h : Nat.ble (lo + n) rows.length = true) : (fzS [.row 0 T k rows]).sub 0 k lo n C w = .lst n ((rows.drop lo).take n) := by
  simp [fzS, subL, rowK, pos, AP.id, h]
end Go.Proofs.YtlghgdgpbnlpmaaGreat
/- What is proved: what the helpers of chapter 24's laws answer. Conditions: none. -/
namespace Go.Proofs.YtlghgdgpbnlpmaaGreat
open Go.RowKit
set_option linter.unusedVariables false
set_option linter.unusedSimpArgs false
set_option maxRecDepth 100000
set_option maxHeartbeats 100000000
theorem vec_same (f : Int → Int) : (!(f 0 == f 0 && (f 1 == f 1 && (f 2 == f 2 && (f 3 == f 3 && true))))) = false := by simp
theorem rmay_p {v : Int → Int} {t : Bool} (h : mayV v = t) : AFnP Tryz.prog 27 [vecE v] (.bool t) := by subst h; exact rmay_a v
theorem first24_a : AFnP Tryz.prog 52 [] (.agg (bunE firstB)) := by
  refine afp ty_ok Tryz.call52 Tryz.func52 ?_
  (try conv=>whnf)<;>repeat'((first|exact sNo|refine sT ?_|refine sF ?_|((first|refine sD ?_ ?_|refine sE ?_ ?_|refine sN ?_ ?_|refine sG ?_ ?_)<;>intro ht<;>(first|(cases ht;done)|skip))|refine wr ?_|refine ix ?_|refine ati ?_|refine row ?_|refine app ?_|refine dr ?_|refine VBs.own ?_|fail)<;>(try conv=>whnf))
  all_goals rfl
def firstM : Buf := ⟨1, 2, [(1, firstB)], 1, fun _ _ => 0⟩
theorem firstM_add : addBuf (newBuf 1 2) firstB = (firstM, 1, 0) := by
  unfold addBuf
  rw [if_pos firstB_right]
  rfl
def v01 : Int → Int := fun d => if d = 1 then 1 else 0
theorem v01_E : vecE v01 = .agg [i64 0, i64 1, i64 0, i64 0] := by simp [vecE, v01]
theorem firstM_for : forS firstM 0 = (behV (fun _ => 0) firstB, [firstB]) := by
  have h2 : readyB firstB (fun _ => 0) = true := by unfold readyB; rw [firstB_right]; rfl
  have e : forS firstM 0 = stepS (fun _ => 0, []) firstB := rfl
  rw [e, stepS_yes h2]
  rfl
theorem firstM_all : atMost v01 (behV (fun _ => 0) firstB) = true := by decide
attribute [local irreducible] AFnP AFn AFnR in
theorem awake24_a : AFnP Tryz.prog 34 [] (.bool true) := by
  have r0 := first24_a
  have r1 := bnew_t (s := 1) (c := 2) rfl
  have r2 := badd_o (newBuf 1 2) firstB BI.new firstB_Sm (by decide)
  rw [firstM_add] at r2
  have hB : BI firstM := by have := (BI.new (s := 1) (c := 2)).add firstB_Sm (by decide); rw [firstM_add] at this; exact this
  have r3 := bfor_o firstM 0 v01 1 hB (by decide) (by decide)
  rw [firstM_for, firstM_all, v01_E] at r3
  have e1 : [firstB].take (1 : Int).toNat = [firstB] := rfl
  rw [e1] at r3
  have r4 := rsame_B firstB firstB_Sm
  dsimp only at r2 r3
  have hl : [firstB].length = 1 := rfl
  rw [hl] at r3
  clear hB e1 hl
  dsimp only [bufP, bufE, newBuf, firstM, lstE] at r1 r2 r3
  have e2 : [firstB].map bunE = [bunE firstB] := rfl
  rw [e2] at r3
  generalize ([(1, firstB)] : List (Int × Bun)).map prB = R at *
  generalize firstB = b at *
  refine afp ty_ok Tryz.call34 Tryz.func34 ?_
  (try conv=>whnf)<;>repeat'((first|(refine pr ?_;(try conv=>whnf);(fail_if_success (show False)))|exact sNo|refine sT ?_|refine sF ?_|((first|refine sD ?_ ?_|refine sE ?_ ?_|refine sN ?_ ?_|refine sG ?_ ?_)<;>intro ht<;>(first|(cases ht;done)|skip))|refine wr ?_|refine ix ?_|refine ati ?_|refine row ?_|refine app ?_|refine dr ?_|refine VBs.own ?_|refine cp r0 ?_|refine cf r0 ?_|refine cg r0 ?_|refine cz r0 ?_|(refine co r1 ?_;rintro r h' ⟨rfl,rfl⟩)|(refine co r2 ?_;rintro r h' ⟨rfl,rfl⟩)|(refine co r3 ?_;rintro r h' ⟨rfl,rfl⟩)|refine cp r4 ?_|refine cf r4 ?_|refine cg r4 ?_|refine cz r4 ?_|fail)<;>(try conv=>whnf))
  all_goals rfl
theorem alike24_a (l : List Bun) (hl : l.length ≤ 1000000) (hS : ∀ b ∈ l, SmB b) : AFnP Tryz.prog 50 [lstE bunE l, lstE bunE l] (.bool true) := by
  refine afp ty_ok Tryz.call50 Tryz.func50 ?_
  (try conv=>whnf)<;>repeat'((first|exact sNo|refine sT ?_|refine sF ?_|((first|refine sD ?_ ?_|refine sE ?_ ?_|refine sN ?_ ?_|refine sG ?_ ?_)<;>intro ht<;>(first|(cases ht;done)|skip))|refine wr ?_|refine ix ?_|refine ati ?_|refine row ?_|refine app ?_|refine dr ?_|refine VBs.own ?_|fail)<;>(try conv=>whnf))
  refine VLp.mk ⟨[], [], [13], fun k vs h => ∃ i : Nat, vs = [i64 i] ∧ h = [] ∧ i ≤ l.length ∧ k = l.length - i, l.length, ?_⟩
  conv => whnf
  refine ⟨⟨0, rfl, rfl, by omega, by omega⟩, ?_⟩
  rintro k vs h ⟨i, rfl, rfl, hi, rfl⟩
  by_cases hin : i < l.length
  · have r1 := rsame_B l[i] (hS _ (List.getElem_mem hin))
    (try conv=>whnf)<;>repeat'((first|exact sNo|refine sT ?_|refine sF ?_|((first|refine sD ?_ ?_|refine sE ?_ ?_|refine sN ?_ ?_|refine sG ?_ ?_)<;>intro ht<;>(first|(cases ht;done)|skip))|refine wr ?_|refine ix ?_|refine ati ?_|refine row ?_|refine app ?_|refine dr ?_|refine VBs.own ?_|refine cf r1 ?_|refine cg r1 ?_|refine cz r1 ?_|fail)<;>(try conv=>whnf))
    all_goals exact VRd.mk rfl ⟨l.length - (i + 1), by omega, i + 1, rfl, rfl, by omega, rfl⟩
  · (try conv=>whnf)<;>repeat'((first|exact sNo|refine sT ?_|refine sF ?_|((first|refine sD ?_ ?_|refine sE ?_ ?_|refine sN ?_ ?_|refine sG ?_ ?_)<;>intro ht<;>(first|(cases ht;done)|skip))|refine wr ?_|refine ix ?_|refine ati ?_|refine row ?_|refine app ?_|refine dr ?_|refine VBs.own ?_|fail)<;>(try conv=>whnf))
    all_goals rfl
theorem rsmalls24_a (l : List Bun) (n : Nat) (hn : n ≤ 100) (hb : ∀ b ∈ l, bndT b.t) : AFnP Tryz.prog 35 [lstE bunE l, i64 (n : Int)] (.bool (decide (l.length ≤ n) && l.all fun b => smallB b 30)) := by
  refine afp ty_ok Tryz.call35 Tryz.func35 ?_
  by_cases h : l.length ≤ n
  · rw [decide_eq_true h]
    (try conv=>whnf)<;>repeat'((first|exact sNo|refine sT ?_|refine sF ?_|((first|refine sD ?_ ?_|refine sE ?_ ?_|refine sN ?_ ?_|refine sG ?_ ?_)<;>intro ht<;>(first|(cases ht;done)|skip))|refine wr ?_|refine ix ?_|refine ati ?_|refine row ?_|refine app ?_|refine dr ?_|refine VBs.own ?_|fail)<;>(try conv=>whnf))
    refine VLp.mk ⟨[], [], [12], fun k vs h => ∃ i : Nat, vs = [i64 i] ∧ h = [] ∧ i ≤ l.length ∧ k = l.length - i ∧ ∀ j (hj : j < i) (hjl : j < l.length), smallB l[j] 30 = true, l.length, ?_⟩
    conv => whnf
    refine ⟨⟨0, rfl, rfl, by omega, by omega, fun j hj => by omega⟩, ?_⟩
    rintro k vs h ⟨i, rfl, rfl, hi, rfl, hg⟩
    by_cases hin : i < l.length
    · cases hs : smallB l[i] 30
      · have s1 := rsmall_B l[i] 30 (by decide) (hb _ (List.getElem_mem hin)) hs
        have e : (l.all fun b => smallB b 30) = false := List.all_eq_false.2 ⟨l[i], List.getElem_mem hin, by rw [hs]; decide⟩
        rw [e]
        (try conv=>whnf)<;>repeat'((first|exact sNo|refine sT ?_|refine sF ?_|((first|refine sD ?_ ?_|refine sE ?_ ?_|refine sN ?_ ?_|refine sG ?_ ?_)<;>intro ht<;>(first|(cases ht;done)|skip))|refine wr ?_|refine ix ?_|refine ati ?_|refine row ?_|refine app ?_|refine dr ?_|refine VBs.own ?_|refine cf s1 ?_|refine cg s1 ?_|refine cz s1 ?_|fail)<;>(try conv=>whnf))
        all_goals rfl
      · have s1 := rsmall_B l[i] 30 (by decide) (hb _ (List.getElem_mem hin)) hs
        (try conv=>whnf)<;>repeat'((first|exact sNo|refine sT ?_|refine sF ?_|((first|refine sD ?_ ?_|refine sE ?_ ?_|refine sN ?_ ?_|refine sG ?_ ?_)<;>intro ht<;>(first|(cases ht;done)|skip))|refine wr ?_|refine ix ?_|refine ati ?_|refine row ?_|refine app ?_|refine dr ?_|refine VBs.own ?_|refine cf s1 ?_|refine cg s1 ?_|refine cz s1 ?_|fail)<;>(try conv=>whnf))
        all_goals exact VRd.mk rfl ⟨l.length - (i + 1), by omega, i + 1, rfl, rfl, by omega, rfl, fun j hj hjl => by rcases Nat.lt_succ_iff_lt_or_eq.1 hj with h | rfl; exact hg j h hjl; exact hs⟩
    · have e : (l.all fun b => smallB b 30) = true := List.all_eq_true.2 fun x hx => by
        obtain ⟨j, hj, rfl⟩ := List.getElem_of_mem hx
        exact hg j (by omega) hj
      rw [e]
      (try conv=>whnf)<;>repeat'((first|exact sNo|refine sT ?_|refine sF ?_|((first|refine sD ?_ ?_|refine sE ?_ ?_|refine sN ?_ ?_|refine sG ?_ ?_)<;>intro ht<;>(first|(cases ht;done)|skip))|refine wr ?_|refine ix ?_|refine ati ?_|refine row ?_|refine app ?_|refine dr ?_|refine VBs.own ?_|fail)<;>(try conv=>whnf))
      all_goals rfl
  · rw [decide_eq_false h]
    (try conv=>whnf)<;>repeat'((first|exact sNo|refine sT ?_|refine sF ?_|((first|refine sD ?_ ?_|refine sE ?_ ?_|refine sN ?_ ?_|refine sG ?_ ?_)<;>intro ht<;>(first|(cases ht;done)|skip))|refine wr ?_|refine ix ?_|refine ati ?_|refine row ?_|refine app ?_|refine dr ?_|refine VBs.own ?_|fail)<;>(try conv=>whnf))
    all_goals rfl
theorem rsmalls24_p {l : List Bun} {n : Nat} (hn : n ≤ 100) (hb : ∀ b ∈ l, bndT b.t) {t : Bool} (h : (decide (l.length ≤ n) && l.all fun b => smallB b 30) = t) : AFnP Tryz.prog 35 [lstE bunE l, i64 (n : Int)] (.bool t) := by subst h; exact rsmalls24_a l n hn hb
end Go.Proofs.YtlghgdgpbnlpmaaGreat
/- What is proved: what the reference's buffer answers. Conditions: none. -/
namespace Go.Proofs.YtlghgdgpbnlpmaaGreat
open Go.RowKit
set_option linter.unusedVariables false
set_option linter.unusedSimpArgs false
set_option maxRecDepth 100000
set_option maxHeartbeats 100000000
attribute [local irreducible] AFnP AFn AFnR
theorem stepS_len2 (s : SS) (b : Bun) : (stepS s b).2.length ≤ s.2.length + 1 := by
  unfold stepS
  split
  · simp
  · omega
theorem passS_len2 : ∀ (L : List Bun) (s : SS), (passS L s).2.length ≤ s.2.length + L.length
  | [], s => by simp [passS]
  | b :: L, s => by
    have h1 : (passS (b :: L) s).2.length ≤ (stepS s b).2.length + L.length := passS_len2 L (stepS s b)
    have h2 := stepS_len2 s b
    simp only [List.length_cons]
    omega
theorem iterS_len (m : List (Int × Bun)) (s : SS) (h : s.2 = []) : ∀ j : Nat, (iterS (m.map (·.2)) j s).2.length ≤ j * m.length
  | 0 => by rw [iter_zero, h]; simp
  | j + 1 => by
    have h1 := passS_len2 (m.map (·.2)) (iterS (m.map (·.2)) j s)
    have h2 := iterS_len m s h j
    rw [List.length_map] at h1
    rw [iter_succ, Nat.succ_mul]
    omega
theorem rnew_t {s c : Int} (h : newOk s c = true) : AFnP Tryz.prog 44 [i64 s, i64 c] (.tup [.agg (bufE (newBuf s c)), .bool true]) := by
  have h := of_decide_eq_true h
  refine afp ty_ok Tryz.call44 Tryz.func44 ?_
  (try conv=>whnf)<;>repeat'((first|exact sNo|refine sT ?_|refine sF ?_|((first|refine sD ?_ ?_|refine sE ?_ ?_|refine sN ?_ ?_|refine sG ?_ ?_)<;>intro ht<;>(first|(cases ht;done)|skip))|refine wr ?_|refine ix ?_|refine ati ?_|refine row ?_|refine app ?_|refine dr ?_|refine VBs.own ?_|fail)<;>(try conv=>whnf))
  all_goals rfl
theorem rother_a (b : Buf) (n : Int) : AFnP Tryz.prog 80 [.agg (bufE b), i64 n] (.bool (peerB b n)) := by
  refine afp ty_ok Tryz.call80 Tryz.func80 ?_
  unfold peerB bufE lstE
  generalize b.m.map prB = R at *
  generalize b.m.length = nn at *
  (try conv=>whnf)<;>repeat'((first|exact sNo|refine sT ?_|refine sF ?_|((first|refine sD ?_ ?_|refine sE ?_ ?_|refine sN ?_ ?_|refine sG ?_ ?_)<;>intro ht<;>(first|(cases ht;done)|skip))|refine wr ?_|refine ix ?_|refine ati ?_|refine row ?_|refine app ?_|refine dr ?_|refine VBs.own ?_|fail)<;>(try conv=>whnf))
  all_goals (refine congrArg AV.bool ?_; first | (rw [decide_eq_true (by omega)]; done) | (rw [decide_eq_false (by omega)]; done))
theorem rother_p {b : Buf} {n : Int} {t : Bool} (h : peerB b n = t) : AFnP Tryz.prog 80 [.agg (bufE b), i64 n] (.bool t) := by subst h; exact rother_a b n
/-! Add -/
theorem radd24_1 (b : Buf) (x : Bun) (hx : SmB x) (hlen : b.m.length ≤ 64) (hlast : 0 ≤ b.last ∧ b.last < 1000000) : ∃ R, AFn Tryz.prog 48 [.agg (bufE b), .agg (bunE x)] [] R ∧ ∀ r h', R r h' → tr (fzS h') r = .tup [.agg (bufE (addBuf b x).1), i64 (addBuf b x).2.1, i64 (addBuf b x).2.2] := by
  unfold addBuf
  cases hR : rightB x
  · have r1 := rright_p hx hR
    rw [if_neg (by decide)]
    dsimp only
    unfold bufE lstE
    generalize b.m.map prB = R at *
    generalize b.m.length = nn at *
    refine ⟨fun r h' => r = .tup [.agg [i64 b.self, i64 b.cn, .lst nn R, i64 b.last, i64 (b.has 0 0), i64 (b.has 0 1), i64 (b.has 0 2), i64 (b.has 0 3), i64 (b.has 1 0), i64 (b.has 1 1), i64 (b.has 1 2), i64 (b.has 1 3), i64 (b.has 2 0), i64 (b.has 2 1), i64 (b.has 2 2), i64 (b.has 2 3), i64 (b.has 3 0), i64 (b.has 3 1), i64 (b.has 3 2), i64 (b.has 3 3)], i64 0, i64 1] ∧ h' = [], ?_, by rintro r h' ⟨rfl, rfl⟩; rfl⟩
    refine afn_in ty_ok Tryz.call48 Tryz.func48 rfl rfl (by decide +kernel) ?_
    (try conv=>whnf)<;>repeat'((first|exact sNo|refine sT ?_|refine sF ?_|((first|refine sD ?_ ?_|refine sE ?_ ?_|refine sN ?_ ?_|refine sG ?_ ?_)<;>intro ht<;>(first|(cases ht;done)|skip))|refine wr ?_|refine ix ?_|refine ati ?_|refine row ?_|refine app ?_|refine dr ?_|refine VAnd.mk ?_ ?_|exact VJe.mk rfl ⟨rfl,rfl⟩|refine .inl (slM ?_)|refine .inl (slO ?_)|refine slM ?_|refine slO ?_|refine slN ?_|refine slS ?_|refine swB (swM fun C hC=>?_)|refine sj ?_|refine .inl (sv ?_)|refine sv ?_|refine cl ?_|refine s3 ?_|refine az ?_|refine rm ?_|refine VBs.own ?_|refine cf r1 ?_|refine cg r1 ?_|refine cz r1 ?_|fail)<;>(try conv=>whnf))
    all_goals exact VRt.mk rfl ⟨rfl, rfl⟩
  · have r1 := rright_p hx hR
    rw [if_pos rfl]
    dsimp only
    unfold addM
    by_cases h64 : 64 ≤ b.m.length
    · rw [if_pos h64]
      have hl64 : b.m.length = 64 := by omega
      have e1 : (b.m ++ [(b.last + 1, x)]).drop 1 = b.m.drop 1 ++ [(b.last + 1, x)] := by rw [List.drop_append_of_le_length (by omega)]
      have e2 : ((b.m.map prB ++ [i64 (b.last + 1) :: bunE x]).drop 1).take 64 = ((b.m ++ [(b.last + 1, x)]).drop 1).map prB := by
        rw [List.take_of_length_le (by simp; omega), List.map_drop, List.map_append]
        rfl
      have e3 : ((b.m ++ [(b.last + 1, x)]).drop 1).length = 64 := by simp; omega
      unfold bufE lstE
      dsimp only
      rw [e3, ← e2]
      clear e1 e2 e3
      have hRl : (b.m.map prB).length = 64 := by simp [hl64]
      have hok : RowsOk 11 (b.m.map prB) := rok_map (fun _ => ⟨rfl, rfl⟩)
      generalize b.m.map prB = R at *
      refine ⟨fun r h' => ∃ C, 65 ≤ C ∧ r = .tup [.agg [i64 b.self, i64 b.cn, .sub 0 11 1 64 C false, i64 (b.last + 1), i64 (b.has 0 0), i64 (b.has 0 1), i64 (b.has 0 2), i64 (b.has 0 3), i64 (b.has 1 0), i64 (b.has 1 1), i64 (b.has 1 2), i64 (b.has 1 3), i64 (b.has 2 0), i64 (b.has 2 1), i64 (b.has 2 2), i64 (b.has 2 3), i64 (b.has 3 0), i64 (b.has 3 1), i64 (b.has 3 2), i64 (b.has 3 3)], i64 (b.last + 1), i64 0] ∧ h' = [.row 0 139 11 (R ++ [i64 (b.last + 1) :: bunE x])], ?_, ?_⟩
      · refine afn_in ty_ok Tryz.call48 Tryz.func48 rfl rfl (by decide +kernel) ?_
        (try conv=>whnf)<;>repeat'((first|(refine drx [0,1,2000] [] [] ?_;(try conv=>whnf);(fail_if_success (show False)))|exact sNo|refine sT ?_|refine sF ?_|((first|refine sD ?_ ?_|refine sE ?_ ?_|refine sN ?_ ?_|refine sG ?_ ?_)<;>intro ht<;>(first|(cases ht;done)|skip))|refine wr ?_|refine ix ?_|refine ati ?_|refine row ?_|refine app ?_|refine dr ?_|refine VAnd.mk ?_ ?_|exact VJe.mk rfl ⟨rfl,rfl⟩|refine .inl (slM ?_)|refine .inl (slO ?_)|refine slM ?_|refine slO ?_|refine slN ?_|refine slS ?_|refine swB (swM fun C hC=>?_)|refine sj ?_|refine .inl (sv ?_)|refine sv ?_|refine cl ?_|refine s3 ?_|refine az ?_|refine rm ?_|refine VBs.own ?_|refine cf r1 ?_|refine cg r1 ?_|refine cz r1 ?_|refine app ?_ hok|fail)<;>(try conv=>whnf))
        all_goals exact VRt.mk rfl ⟨C, by omega, by rw [show 0 + b.m.length + 1 - 1 = 64 by omega] <;> rfl, rfl⟩
      · rintro r h' ⟨C, hC, rfl, rfl⟩
        have hq : Nat.ble (1 + 64) (R ++ [i64 (b.last + 1) :: bunE x]).length = true := by rw [List.length_append, hRl] <;> rfl
        have e := fzS_sub (T := 139) (k := 11) (lo := 1) (n := 64) (C := C) (w := false) hq
        simp only [tr, trL]
        rw [e]
    · rw [if_neg h64]
      have e2 : (b.m ++ [(b.last + 1, x)]).map prB = b.m.map prB ++ [i64 (b.last + 1) :: bunE x] := by rw [List.map_append] <;> rfl
      have e3 : (b.m ++ [(b.last + 1, x)]).length = b.m.length + 1 := by simp
      unfold bufE lstE
      dsimp only
      rw [e2, e3]
      clear e2 e3
      have hok : RowsOk 11 (b.m.map prB) := rok_map (fun _ => ⟨rfl, rfl⟩)
      generalize b.m.map prB = R at *
      generalize b.m.length = nn at *
      refine ⟨fun r h' => r = .tup [.agg [i64 b.self, i64 b.cn, .own 0 (nn + 1), i64 (b.last + 1), i64 (b.has 0 0), i64 (b.has 0 1), i64 (b.has 0 2), i64 (b.has 0 3), i64 (b.has 1 0), i64 (b.has 1 1), i64 (b.has 1 2), i64 (b.has 1 3), i64 (b.has 2 0), i64 (b.has 2 1), i64 (b.has 2 2), i64 (b.has 2 3), i64 (b.has 3 0), i64 (b.has 3 1), i64 (b.has 3 2), i64 (b.has 3 3)], i64 (b.last + 1), i64 0] ∧ h' = [.row 0 139 11 (R ++ [i64 (b.last + 1) :: bunE x])], ?_, by rintro r h' ⟨rfl, rfl⟩; rfl⟩
      refine afn_in ty_ok Tryz.call48 Tryz.func48 rfl rfl (by decide +kernel) ?_
      (try conv=>whnf)<;>repeat'((first|(refine drx [0,1,2000] [] [] ?_;(try conv=>whnf);(fail_if_success (show False)))|exact sNo|refine sT ?_|refine sF ?_|((first|refine sD ?_ ?_|refine sE ?_ ?_|refine sN ?_ ?_|refine sG ?_ ?_)<;>intro ht<;>(first|(cases ht;done)|skip))|refine wr ?_|refine ix ?_|refine ati ?_|refine row ?_|refine app ?_|refine dr ?_|refine VAnd.mk ?_ ?_|exact VJe.mk rfl ⟨rfl,rfl⟩|refine .inl (slM ?_)|refine .inl (slO ?_)|refine slM ?_|refine slO ?_|refine slN ?_|refine slS ?_|refine swB (swM fun C hC=>?_)|refine sj ?_|refine .inl (sv ?_)|refine sv ?_|refine cl ?_|refine s3 ?_|refine az ?_|refine rm ?_|refine VBs.own ?_|refine cf r1 ?_|refine cg r1 ?_|refine cz r1 ?_|refine app ?_ hok|fail)<;>(try conv=>whnf))
      all_goals exact VRt.mk rfl ⟨by rw [Nat.zero_add] <;> rfl, rfl⟩
theorem radd24_a (b : Buf) (x : Bun) (hx : SmB x) (hlen : b.m.length ≤ 64) (hlast : 0 ≤ b.last ∧ b.last < 1000000) : AFnP Tryz.prog 48 [.agg (bufE b), .agg (bunE x)] (.tup [.agg (bufE (addBuf b x).1), i64 (addBuf b x).2.1, i64 (addBuf b x).2.2]) := by
  obtain ⟨R, h1, h2⟩ := radd24_1 b x hx hlen hlast
  exact h1.frzP h2
/-! For -/
theorem rfor_a (b : Buf) (n : Int) (v : Int → Int) (q : Int) (hB : BI b) (hc : b.cn ≤ 4) (h : forOk b n v q = true) : AFnP Tryz.prog 49 [.agg (bufE b), i64 n, vecE v, i64 q] (.tup [lstE bunE ((forS b n).2.take q.toNat), .bool (atMost v (forS b n).1), i64 0]) := by
  refine afp ty_ok Tryz.call49 Tryz.func49 ?_
  unfold forOk at h
  rw [Bool.and_eq_true, Bool.and_eq_true, decide_eq_true_eq] at h
  obtain ⟨⟨hp, hv⟩, hq1, hq2⟩ := h
  obtain ⟨q', hq'⟩ : ∃ q' : Nat, q = (q' : Int) := ⟨q.toNat, (Int.toNat_of_nonneg (by omega)).symm⟩
  subst hq'
  rw [Int.toNat_natCast]
  have r1 := rother_p hp
  have r2 := rmay_p hv
  have hlen := hB.len
  obtain ⟨F, hF⟩ : ∃ F : SS, F = forS b n := ⟨_, rfl⟩
  rw [← hF]
  obtain ⟨S, hS⟩ : ∃ S : Nat → SS, ∀ j, S j = iterS (b.m.map (·.2)) j (b.has n, []) := ⟨_, fun _ => rfl⟩
  have hSm : ∀ i (hi : i < b.m.length), SmB b.m[i].2 := fun i hi => (hB.ok _ (List.getElem_mem hi)).2
  have hRi : ∀ i (hi : i < b.m.length), rightB b.m[i].2 = true := fun i hi => (hB.ok _ (List.getElem_mem hi)).1
  have hend : F = S b.m.length := by rw [hF, hS] <;> rfl
  have hrow := fun i (h : i < b.m.length) => m_row (m := b.m) h
  have hS0 : S 0 = (b.has n, []) := by rw [hS, iter_zero]
  have hSs : ∀ j, S (j + 1) = passS (b.m.map (·.2)) (S j) := fun j => by rw [hS, hS, iter_succ]
  have hSl : ∀ j, (S j).2.length ≤ j * b.m.length := fun j => by rw [hS]; exact iterS_len _ _ rfl _
  have hLl : (b.m.map (·.2)).length = b.m.length := List.length_map ..
  have hLg : ∀ i (hi : i < b.m.length), (b.m.map (·.2))[i]'(by rw [hLl]; exact hi) = b.m[i].2 := fun i hi => List.getElem_map ..
  have hp4 := peer_four hc hp
  clear hF hS hB
  unfold bufE at *
  unfold lstE at *
  generalize hm : b.m = m at *
  clear hm
  generalize m.map prB = R at *
  generalize hL : m.map (·.2) = L at *
  obtain ⟨nn, hnn⟩ : ∃ nn, m.length = nn := ⟨_, rfl⟩
  rw [hnn] at r1 hlen hend hSl ⊢
  subst hend
  rcases hp4 with ⟨hn', hn⟩ | ⟨hn', hn⟩ | ⟨hn', hn⟩ | ⟨hn', hn⟩
  all_goals
    rw [hn'] at hS0
    have e0 := congrArg Prod.fst hS0
    dsimp only at e0
    have e1 := congrArg Prod.snd hS0
    dsimp only at e1
    (try conv=>whnf)<;>repeat'((first|exact sNo|refine sT ?_|refine sF ?_|((first|refine sD ?_ ?_|refine sE ?_ ?_|refine sN ?_ ?_|refine sG ?_ ?_)<;>intro ht<;>(first|(cases ht;done)|skip))|refine wr ?_|refine ix ?_|refine ati ?_|refine row ?_|refine app ?_|refine dr ?_|refine VBs.own ?_|refine cf r1 ?_|refine cg r1 ?_|refine cz r1 ?_|refine cf r2 ?_|refine cg r2 ?_|refine cz r2 ?_|fail)<;>(try conv=>whnf))
    refine VLp.mk ⟨[.slot 12 43 10], [4, 6, 11], [12, 38], fun k vs h => ∃ j : Nat, vs = [.own 3 (S j).2.length, i64 j] ∧ h = [.blk 0 (i64 b.self :: i64 b.cn :: .lst nn R :: i64 b.last :: hcE b) 92, .blk 1 [i64 (v 0), i64 (v 1), i64 (v 2), i64 (v 3)] 33, .blk 2 [i64 ((S j).1 0), i64 ((S j).1 1), i64 ((S j).1 2), i64 ((S j).1 3)] 33, .row 3 43 10 ((S j).2.map bunE)] ∧ j ≤ nn ∧ k = nn - j, nn, ?_⟩
    conv => whnf
    refine ⟨⟨0, by rw [e1] <;> rfl, by rw [e0, e1] <;> rfl, by omega, by omega⟩, ?_⟩
    rintro k vs h ⟨j, rfl, rfl, hj, rfl⟩
    by_cases hjn : j < nn
    · have hSj := hSs j
      obtain ⟨P, hP⟩ : ∃ P : Nat → SS, ∀ i, P i = passS (L.take i) (S j) := ⟨_, fun _ => rfl⟩
      have hP0 : P 0 = S j := by rw [hP, List.take_zero] <;> rfl
      have hPs : ∀ i (hi : i < m.length), P (i + 1) = stepS (P i) m[i].2 := fun i hi => by
        rw [hP, hP, passS_take (by omega), hLg i (by omega)]
      have hPn : P nn = S (j + 1) := by rw [hSj, hP, List.take_of_length_le (by omega)]
      have hPl : ∀ i, (P i).2.length ≤ (S j).2.length + i := fun i => by
        rw [hP]
        have := passS_len2 (L.take i) (S j)
        rw [List.length_take] at this
        omega
      have hSlj := hSl j
      have hjj : j * nn ≤ 64 * 64 := Nat.mul_le_mul (by omega) hlen
      (try conv=>whnf)<;>repeat'((first|exact sNo|refine sT ?_|refine sF ?_|((first|refine sD ?_ ?_|refine sE ?_ ?_|refine sN ?_ ?_|refine sG ?_ ?_)<;>intro ht<;>(first|(cases ht;done)|skip))|refine wr ?_|refine ix ?_|refine ati ?_|refine row ?_|refine app ?_|refine dr ?_|refine VBs.own ?_|fail)<;>(try conv=>whnf))
      refine VLp.mk ⟨[], [4, 6, 11], [12, 43], fun k vs h => ∃ i : Nat, vs = [.own 3 (P i).2.length, i64 i] ∧ h = [.blk 0 (i64 b.self :: i64 b.cn :: .lst nn R :: i64 b.last :: hcE b) 92, .blk 1 [i64 (v 0), i64 (v 1), i64 (v 2), i64 (v 3)] 33, .blk 2 [i64 ((P i).1 0), i64 ((P i).1 1), i64 ((P i).1 2), i64 ((P i).1 3)] 33, .row 3 43 10 ((P i).2.map bunE)] ∧ i ≤ nn ∧ k = nn - i, nn, ?_⟩
      conv => whnf
      refine ⟨⟨0, by rw [hP0] <;> rfl, by rw [hP0] <;> rfl, by omega, by omega⟩, ?_⟩
      rintro k vs h ⟨i, rfl, rfl, hi, rfl⟩
      by_cases hin : i < nn
      · have hri := hrow i (by omega)
        have hsi := hSm i (by omega)
        have hrr := hRi i (by omega)
        have hst := hPs i (by omega)
        have hl := hPl i
        have hd := (right_nums hrr).1.1
        generalize (m[i]'(by omega)).2 = x at *
        generalize (m[i]'(by omega)).1 = key at *
        cases hk : readyB x (P i).1
        · have q1 := rready_p hd ((ready_two hrr (P i).1).trans hk)
          rw [stepS_no hk] at hst
          (try conv=>whnf)<;>repeat'((first|(refine pr ?_;(try conv=>whnf);(fail_if_success (show False)))|exact sNo|refine sT ?_|refine sF ?_|((first|refine sD ?_ ?_|refine sE ?_ ?_|refine sN ?_ ?_|refine sG ?_ ?_)<;>intro ht<;>(first|(cases ht;done)|skip))|refine wr ?_|refine ix ?_|refine ati ?_|refine row ?_|refine app ?_|refine dr ?_|refine VBs.own ?_|refine cp q1 ?_|refine cf q1 ?_|refine cg q1 ?_|refine cz q1 ?_|fail)<;>(try conv=>whnf))
          all_goals exact VRd.mk rfl ⟨nn - (i + 1), by omega, i + 1, by rw [hst] <;> rfl, by rw [hst] <;> rfl, by omega, rfl⟩
        · have q1 := rready_p hd ((ready_two hrr (P i).1).trans hk)
          have q2 := rbehind_a x hd (P i).1
          rw [stepS_yes hk] at hst
          have f1 := congrArg Prod.fst hst
          have f2 := congrArg Prod.snd hst
          dsimp only at f1 f2
          have g1 : (P i).2.map bunE ++ [bunE x] = (P (i + 1)).2.map bunE := by rw [f2, List.map_append] <;> rfl
          have g2 : (P (i + 1)).2.length = (P i).2.length + 1 := by rw [f2]; simp
          (try conv=>whnf)<;>repeat'((first|(refine drx [1007] [] [] ?_;(try conv=>whnf);(fail_if_success (show False)))|(refine pr ?_;(try conv=>whnf);(fail_if_success (show False)))|exact sNo|refine sT ?_|refine sF ?_|((first|refine sD ?_ ?_|refine sE ?_ ?_|refine sN ?_ ?_|refine sG ?_ ?_)<;>intro ht<;>(first|(cases ht;done)|skip))|refine wr ?_|refine ix ?_|refine ati ?_|refine row ?_|refine app ?_|refine dr ?_|refine VBs.own ?_|refine cp q1 ?_|refine cf q1 ?_|refine cg q1 ?_|refine cz q1 ?_|refine cp q2 ?_|refine cf q2 ?_|refine cg q2 ?_|refine cz q2 ?_|fail)<;>(try conv=>whnf))
          all_goals exact VRd.mk rfl ⟨nn - (i + 1), by omega, i + 1, by rw [g2] <;> rfl, by rw [f1, ← g1] <;> rfl, by omega, rfl⟩
      · obtain rfl : i = nn := by omega
        (try conv=>whnf)<;>repeat'((first|exact sNo|refine sT ?_|refine sF ?_|((first|refine sD ?_ ?_|refine sE ?_ ?_|refine sN ?_ ?_|refine sG ?_ ?_)<;>intro ht<;>(first|(cases ht;done)|skip))|refine wr ?_|refine ix ?_|refine ati ?_|refine row ?_|refine app ?_|refine dr ?_|refine VBs.own ?_|fail)<;>(try conv=>whnf))
        all_goals exact VRd.mk rfl ⟨i - (j + 1), by omega, j + 1, by rw [hPn] <;> rfl, by rw [hPn] <;> rfl, by omega, rfl⟩
    · obtain rfl : j = nn := by omega
      have r4 := ratmost_a v (S j).1
      clear hSl hSs hS0 e0 e1
      generalize S j = s at *
      obtain ⟨s1, s2⟩ := s
      dsimp only at *
      generalize atMost v s1 = t at *
      by_cases hle : s2.length ≤ q'
      · rw [show s2.take q' = s2.take s2.length by rw [List.take_length, List.take_of_length_le hle]]
        cases t
        all_goals (try conv=>whnf)<;>repeat'((first|(refine drx [] [] [3] ?_;(try conv=>whnf);(fail_if_success (show False)))|exact sNo|refine sT ?_|refine sF ?_|((first|refine sD ?_ ?_|refine sE ?_ ?_|refine sN ?_ ?_|refine sG ?_ ?_)<;>intro ht<;>(first|(cases ht;done)|skip))|refine wr ?_|refine ix ?_|refine ati ?_|refine row ?_|refine app ?_|refine dr ?_|refine VBs.own ?_|refine cf r4 ?_|refine cg r4 ?_|refine cz r4 ?_|(refine slM (l := 0) (h := s2.length) ?_ (SlP.l0 rfl (by show (if _ then _ else _ : Int) = _;split<;>omega) (by omega) (by omega)))|(refine .inl (slM (l := 0) (h := s2.length) ?_ (SlP.l0 rfl (by show (if _ then _ else _ : Int) = _;split<;>omega) (by omega) (by omega))))|fail)<;>(try conv=>whnf))
        all_goals rfl
      · cases t
        all_goals (try conv=>whnf)<;>repeat'((first|(refine drx [] [] [3] ?_;(try conv=>whnf);(fail_if_success (show False)))|exact sNo|refine sT ?_|refine sF ?_|((first|refine sD ?_ ?_|refine sE ?_ ?_|refine sN ?_ ?_|refine sG ?_ ?_)<;>intro ht<;>(first|(cases ht;done)|skip))|refine wr ?_|refine ix ?_|refine ati ?_|refine row ?_|refine app ?_|refine dr ?_|refine VBs.own ?_|refine cf r4 ?_|refine cg r4 ?_|refine cz r4 ?_|(refine slM (l := 0) (h := q') ?_ (SlP.l0 rfl (by show (if _ then _ else _ : Int) = _;split<;>omega) (by omega) (by omega)))|(refine .inl (slM (l := 0) (h := q') ?_ (SlP.l0 rfl (by show (if _ then _ else _ : Int) = _;split<;>omega) (by omega) (by omega))))|fail)<;>(try conv=>whnf))
        all_goals rfl
/-! Collect -/
end Go.Proofs.YtlghgdgpbnlpmaaGreat
