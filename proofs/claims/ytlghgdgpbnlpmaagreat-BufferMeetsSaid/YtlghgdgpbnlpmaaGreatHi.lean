/- What is proved: plain laws of what is sent, of what goes, of gates that drain. Conditions: none. -/
import Derived.Test.YtlghgdgpbnlpmaaGreatMHb
namespace Go.Proofs.YtlghgdgpbnlpmaaGreat
open Go.RowKit
set_option linter.unusedVariables false
set_option linter.unusedSimpArgs false
/-! filled -/
def fillB (l : List Bun) (b : Buf) : Buf := l.foldl (fun b x => (addBuf b x).1) b
theorem fillB_snoc (l : List Bun) (b : Buf) (x : Bun) : fillB (l ++ [x]) b = (addBuf (fillB l b) x).1 := by unfold fillB; rw [List.foldl_append]; rfl
theorem fillB_take {l : List Bun} {i : Nat} (h : i < l.length) (b : Buf) : fillB (l.take (i + 1)) b = (addBuf (fillB (l.take i) b) l[i]).1 := by rw [← take_snoc h, fillB_snoc]
structure FillI (l : List Bun) (b0 b : Buf) : Prop where
  bi : BI b
  m : b.m.map (·.2) = l.filter fun x => rightB x
  last : b.last = b.m.length
  has : b.has = b0.has
  self : b.self = b0.self
  cn : b.cn = b0.cn
theorem FillI.len {l : List Bun} {b0 b : Buf} (h : FillI l b0 b) : b.m.length ≤ l.length := by
  have := congrArg List.length h.m
  rw [List.length_map] at this
  rw [this]
  exact List.length_filter_le ..
theorem fill_spec {b0 : Buf} (h0 : BI b0) (hm : b0.m = []) (hl : b0.last = 0) : ∀ (n : Nat) (l : List Bun), l.length = n → n ≤ 64 → (∀ x ∈ l, SmB x) → FillI l b0 (fillB l b0)
  | 0, l, hn, _, _ => by
    obtain rfl := List.eq_nil_of_length_eq_zero hn
    exact ⟨h0, by show b0.m.map _ = _; rw [hm]; rfl, by show b0.last = (b0.m.length : Int); rw [hm, hl]; rfl, rfl, rfl, rfl⟩
  | n + 1, l, hn, h64, hS => by
    rcases nil_or_snoc l with rfl | ⟨m, x, rfl⟩
    · cases hn
    · rw [List.length_append, List.length_singleton] at hn
      have ih := fill_spec h0 hm hl n m (by omega) (by omega) fun y hy => hS y (List.mem_append_left _ hy)
      have hx := hS x (by simp)
      have hlen := ih.len
      rw [fillB_snoc]
      have hb := ih.bi.add hx (by have := ih.last; omega)
      cases hR : rightB x
      · have e : addBuf (fillB m b0) x = (fillB m b0, 0, 1) := by unfold addBuf; rw [if_neg (by rw [hR]; decide)]
        rw [e] at hb ⊢
        refine ⟨hb, ?_, ih.last, ih.has, ih.self, ih.cn⟩
        rw [List.filter_append]
        simp [hR, ih.m]
      · have e : addBuf (fillB m b0) x = ({ fillB m b0 with m := (fillB m b0).m ++ [((fillB m b0).last + 1, x)], last := (fillB m b0).last + 1 }, (fillB m b0).last + 1, 0) := by
          unfold addBuf addM
          rw [if_pos hR, if_neg (by omega)]
        rw [e] at hb ⊢
        refine ⟨hb, ?_, ?_, ih.has, ih.self, ih.cn⟩
        · show ((fillB m b0).m ++ [((fillB m b0).last + 1, x)]).map _ = _
          rw [List.map_append, ih.m, List.filter_append]
          simp [hR]
        · show (fillB m b0).last + 1 = (((fillB m b0).m ++ [((fillB m b0).last + 1, x)]).length : Int)
          rw [ih.last]
          simp
/-! one behind the other -/
def runH (u : Int → Int) (l : List Bun) : Int → Int := l.foldl behV u
def Run (u : Int → Int) : List Bun → Prop
  | [] => True
  | b :: l => readyB b u = true ∧ Run (behV u b) l
theorem runH_snoc (u : Int → Int) (l : List Bun) (x : Bun) : runH u (l ++ [x]) = behV (runH u l) x := by unfold runH; rw [List.foldl_append]; rfl
theorem runH_take {l : List Bun} {i : Nat} (h : i < l.length) (u : Int → Int) : runH u (l.take (i + 1)) = behV (runH u (l.take i)) l[i] := by rw [← take_snoc h, runH_snoc]
theorem Run_snoc : ∀ {l : List Bun} {u : Int → Int} {x : Bun}, Run u l → readyB x (runH u l) = true → Run u (l ++ [x])
  | [], u, x, _, h => ⟨h, trivial⟩
  | b :: l, u, x, h, hx => ⟨h.1, Run_snoc h.2 hx⟩
theorem Run_at : ∀ {l : List Bun} {u : Int → Int}, Run u l → ∀ {k : Nat} (h : k < l.length), readyB l[k] (runH u (l.take k)) = true
  | b :: l, u, h, 0, _ => h.1
  | b :: l, u, h, k + 1, hk => Run_at h.2 (by simpa using hk)
structure RunS (u : Int → Int) (s : SS) : Prop where
  hs : s.1 = runH u s.2
  run : Run u s.2
theorem RunS.step {u : Int → Int} {s : SS} (h : RunS u s) (b : Bun) : RunS u (stepS s b) := by
  cases hr : readyB b s.1
  · rw [stepS_no hr]; exact h
  · rw [stepS_yes hr]
    exact ⟨by rw [runH_snoc, ← h.hs], Run_snoc h.run (by rw [← h.hs]; exact hr)⟩
theorem RunS.pass {u : Int → Int} : ∀ {L : List Bun} {s : SS}, RunS u s → RunS u (passS L s)
  | [], s, h => h
  | b :: L, s, h => RunS.pass (L := L) (h.step b)
theorem RunS.iter {u : Int → Int} {L : List Bun} {s : SS} (h : RunS u s) : ∀ n, RunS u (iterS L n s)
  | 0 => h
  | n + 1 => (RunS.iter h n).pass
theorem stepS_cnt {L0 : List Bun} (hR : ∀ b ∈ L0, rightB b = true) {b : Bun} (hb : b ∈ L0) (s : SS) : pend L0 (stepS s b).1 + (stepS s b).2.length ≤ pend L0 s.1 + s.2.length := by
  cases hr : readyB b s.1
  · rw [stepS_no hr]; exact Nat.le_refl _
  · have e : passS [b] s = stepS s b := rfl
    have h1 := passS_pend hR (L := [b]) (s := s) (fun x hx => by rw [List.mem_singleton] at hx; rw [hx]; exact hb) (by rw [e, stepS_yes hr]; simp)
    rw [e] at h1
    have h2 : (stepS s b).2.length = s.2.length + 1 := by rw [stepS_yes hr]; simp
    omega
theorem passS_cnt {L0 : List Bun} (hR : ∀ b ∈ L0, rightB b = true) : ∀ {L : List Bun} (s : SS), (∀ b ∈ L, b ∈ L0) → pend L0 (passS L s).1 + (passS L s).2.length ≤ pend L0 s.1 + s.2.length
  | [], s, _ => Nat.le_refl _
  | b :: L, s, h => Nat.le_trans (passS_cnt hR (L := L) (stepS s b) fun x hx => h x (List.mem_cons_of_mem _ hx)) (stepS_cnt hR (h b (List.mem_cons_self ..)) s)
theorem iterS_cnt {L : List Bun} (hR : ∀ b ∈ L, rightB b = true) (s : SS) : ∀ n, pend L (iterS L n s).1 + (iterS L n s).2.length ≤ pend L s.1 + s.2.length
  | 0 => Nat.le_refl _
  | n + 1 => Nat.le_trans (passS_cnt hR (iterS L n s) fun b hb => hb) (iterS_cnt hR s n)
/-- what is sent, of a buffer -/
structure Sent (L : List Bun) (u : Int → Int) (s : SS) : Prop where
  run : Run u s.2
  hs : s.1 = runH u s.2
  none : noneS L s.1
  len : s.2.length ≤ L.length
  sub : ∀ b ∈ s.2, b ∈ L
theorem stepS_mem {L : List Bun} {s : SS} {x : Bun} (h : ∀ b ∈ s.2, b ∈ L) (hx : x ∈ L) : ∀ b ∈ (stepS s x).2, b ∈ L := by
  unfold stepS
  split
  · intro b hb
    rcases List.mem_append.1 hb with hb | hb
    · exact h b hb
    · rw [List.mem_singleton] at hb; subst hb; exact hx
  · exact h
theorem passS_mem {L0 : List Bun} : ∀ {L : List Bun} {s : SS}, (∀ b ∈ s.2, b ∈ L0) → (∀ b ∈ L, b ∈ L0) → ∀ b ∈ (passS L s).2, b ∈ L0
  | [], s, h, _ => h
  | x :: L, s, h, hL => passS_mem (L := L) (s := stepS s x) (stepS_mem h (hL x (List.mem_cons_self ..))) fun b hb => hL b (List.mem_cons_of_mem _ hb)
theorem iterS_mem {L : List Bun} {s : SS} (h : ∀ b ∈ s.2, b ∈ L) : ∀ n, ∀ b ∈ (iterS L n s).2, b ∈ L
  | 0 => h
  | n + 1 => passS_mem (iterS_mem h n) fun b hb => hb
theorem sent_iter {L : List Bun} (hR : ∀ b ∈ L, rightB b = true) (u : Int → Int) : Sent L u (iterS L L.length (u, [])) := by
  have h := RunS.iter (L := L) (u := u) (s := (u, [])) ⟨rfl, trivial⟩ L.length
  have h2 := iterS_cnt hR (u, []) L.length
  have h3 : pend L u ≤ L.length := List.countP_le_length
  exact ⟨h.run, h.hs, iterS_done hR _, by dsimp only at h2; simp only [List.length_nil] at h2; omega, iterS_mem (fun b hb => by cases hb) _⟩
/-! numbers that rise -/
theorem behV_d (v : Int → Int) (b : Bun) (d : Int) : behV v b d = if d = b.dc then mx (mx (v d) (b.dp d)) b.la else mx (v d) (b.dp d) := by
  unfold behV setV mxV
  split
  · rename_i h; rw [h]
  · rfl
theorem behV_comm (v : Int → Int) (x y : Bun) : behV (behV v x) y = behV (behV v y) x := by
  funext d
  simp only [behV_d]
  unfold mx
  repeat' split
  all_goals omega
theorem behV_ge (v : Int → Int) (b : Bun) (d : Int) : v d ≤ behV v b d := by
  rw [behV_d]
  unfold mx
  repeat' split
  all_goals omega
theorem runH_ge : ∀ (l : List Bun) (u : Int → Int) (d : Int), u d ≤ runH u l d
  | [], u, d => Int.le_refl _
  | b :: l, u, d => Int.le_trans (behV_ge u b d) (runH_ge l (behV u b) d)
theorem behV_la (v : Int → Int) (b : Bun) : b.la ≤ behV v b b.dc := by
  rw [behV_d, if_pos rfl]
  unfold mx
  repeat' split
  all_goals omega
theorem ready_iff {b : Bun} {v : Int → Int} : readyB b v = true ↔ rightB b = true ∧ v b.dc = b.af ∧ ∀ d : Int, 0 ≤ d → d < 4 → b.dp d ≤ v d := by
  unfold readyB
  rw [Bool.and_eq_true, Bool.and_eq_true, decide_eq_true_eq, atMost_iff]
theorem ready_af {b : Bun} {v : Int → Int} (h : readyB b v = true) : b.af < b.la := (right_nums (ready_iff.1 h).1).1.2.2.1
/-- at another center a ready bundle raises nothing -/
theorem behV_other {v : Int → Int} {b : Bun} (h : readyB b v = true) {d : Int} (h0 : 0 ≤ d) (h4 : d < 4) (hd : d ≠ b.dc) : behV v b d = v d := by
  have := (ready_iff.1 h).2.2 d h0 h4
  rw [behV_d, if_neg hd]
  unfold mx
  split <;> omega
theorem ready_stays {x y : Bun} {v : Int → Int} (hx : readyB x v = true) (hy : readyB y v = true) (hne : x.dc ≠ y.dc) : readyB x (behV v y) = true := by
  obtain ⟨h1, h2, h3⟩ := ready_iff.1 hx
  have hd := (right_nums h1).1.1
  refine ready_iff.2 ⟨h1, ?_, fun d h0 h4 => Int.le_trans (h3 d h0 h4) (behV_ge v y d)⟩
  rw [behV_other hy hd.1 hd.2 hne]
  exact h2
/-- what runs has the ready one taken out at any place -/
theorem Run_out : ∀ {a c : List Bun} {x : Bun} {h : Int → Int}, Run h (a ++ x :: c) → readyB x h = true → Run (behV h x) (a ++ c) ∧ runH (behV h x) (a ++ c) = runH h (a ++ x :: c)
  | [], c, x, h, hr, _ => ⟨hr.2, rfl⟩
  | y :: a, c, x, h, hr, hx => by
    have hy := hr.1
    have hr2 : Run (behV h y) (a ++ x :: c) := hr.2
    have hlater : ∃ k, ∃ hk : k < (a ++ x :: c).length, (a ++ x :: c)[k] = x := List.getElem_of_mem (by simp)
    obtain ⟨k, hk, hkx⟩ := hlater
    have h1 := Run_at hr2 hk
    rw [hkx] at h1
    have h2 := (ready_iff.1 h1).2.1
    have h3 := runH_ge ((a ++ x :: c).take k) (behV h y) x.dc
    have hne : x.dc ≠ y.dc := fun e => by
      have h4 := behV_la h y
      have h5 := ready_af hy
      have h6 := (ready_iff.1 hy).2.1
      have h7 := (ready_iff.1 hx).2.1
      rw [← e] at h4 h6
      omega
    have hx' := ready_stays hx hy hne
    have hy' := ready_stays hy hx (Ne.symm hne)
    obtain ⟨g1, g2⟩ := Run_out hr2 hx'
    rw [behV_comm h y x] at g1 g2
    exact ⟨⟨hy', g1⟩, g2⟩
theorem Run_known {l : List Bun} {h : Int → Int} (hr : Run h l) {x : Bun} (hx : x ∈ l) : knownB x h = false := by
  obtain ⟨k, hk, rfl⟩ := List.getElem_of_mem hx
  have h1 := Run_at hr hk
  have h2 := (ready_iff.1 h1).2.1
  have h3 := runH_ge (l.take k) h l[k].dc
  have h4 := ready_af h1
  cases hkn : knownB l[k] h
  · rfl
  · unfold knownB at hkn
    rw [Bool.and_eq_true, decide_eq_true_eq] at hkn
    omega
theorem Run_right {l : List Bun} {h : Int → Int} (hr : Run h l) {x : Bun} (hx : x ∈ l) : rightB x = true := by
  obtain ⟨k, hk, rfl⟩ := List.getElem_of_mem hx
  exact (ready_iff.1 (Run_at hr hk)).1
theorem Run_nd : ∀ {l : List Bun} {h : Int → Int}, Run h l → (l.map keyB).Nodup
  | [], _, _ => List.nodup_nil
  | b :: l, h, hr => by
    rw [List.map_cons, List.nodup_cons]
    refine ⟨fun hm => ?_, Run_nd hr.2⟩
    obtain ⟨y, hy, hk⟩ := List.mem_map.1 hm
    have hR := Run_right hr.2 hy
    have hb := (ready_iff.1 hr.1)
    obtain ⟨e1, e2⟩ := (key_eq hR hb.1).1 hk
    obtain ⟨k, hkl, rfl⟩ := List.getElem_of_mem hy
    have h1 := (ready_iff.1 (Run_at hr.2 hkl)).2.1
    have h2 := runH_ge (l.take k) (behV h b) l[k].dc
    have h3 := behV_la h b
    have h4 := ready_af hr.1
    rw [← e1] at h3
    omega
/-! a gate that drains -/
theorem split_atH {l : List Bun} {i : Nat} (h : i < l.length) : l = l.take i ++ l[i] :: l.drop (i + 1) := by rw [← List.drop_eq_getElem_cons h, List.take_append_drop]
structure Drain (g : List Bun) (h : Int → Int) (o : List Bun) : Prop where
  gi : GI g
  run : Run h o
  mem : ∀ x, x ∈ g ↔ x ∈ o
  len : g.length = o.length
theorem gi_nd {g : List Bun} (h : GI g) : g.Nodup := by
  have hs := h.srt
  unfold srtM gm at hs
  rw [List.pairwise_map] at hs
  refine hs.imp fun {a b} hab e => ?_
  subst e
  simp [ltI] at hab
theorem drain_step {g : List Bun} {h : Int → Int} {o : List Bun} (hD : Drain g h o) (hne : o ≠ []) : ∃ x g' o', nextG g h = (g', x, true) ∧ Drain g' (behV h x) o' ∧ o'.length + 1 = o.length ∧ runH (behV h x) o' = runH h o ∧ SmB x ∧ rightB x = true := by
  have hrest : restG g h = g := List.filter_eq_self.2 fun x hx => by rw [Run_known hD.run ((hD.mem x).1 hx)]; rfl
  have hex : ∃ i, g.findIdx? (fun b => readyB b h) = some i := by
    cases hf : g.findIdx? (fun b => readyB b h) with
    | some i => exact ⟨i, rfl⟩
    | none =>
      cases o with
      | nil => exact absurd rfl hne
      | cons y o =>
        have := List.findIdx?_eq_none_iff.1 hf y ((hD.mem y).2 (List.mem_cons_self ..))
        rw [hD.run.1] at this
        cases this
  obtain ⟨i, hi⟩ := hex
  obtain ⟨h1, h2, _⟩ := List.findIdx?_eq_some_iff_getElem.1 hi
  have hgd : g.getD i zeroB = g[i] := by simp [List.getD_eq_getElem?_getD, h1]
  have hn : nextG g h = (g.take i ++ g.drop (i + 1), g[i], true) := by
    unfold nextG
    rw [hrest, hi]
    dsimp only
    rw [hgd]
  have hx : g[i] ∈ o := (hD.mem _).1 (List.getElem_mem h1)
  obtain ⟨a, c, hac⟩ := List.append_of_mem hx
  have hrun := hD.run
  rw [hac] at hrun
  obtain ⟨k1, k2⟩ := Run_out hrun h2
  have hsp := split_atH h1
  have hnd := gi_nd hD.gi
  have hndo : (a ++ g[i] :: c).Nodup := by
    have := Run_nd hrun
    exact (List.pairwise_map.1 this).imp fun h e => h (congrArg keyB e)
  have hsub : (g.take i ++ g.drop (i + 1)).Sublist g := by
    have := (List.Sublist.refl (g.take i)).append (List.drop_sublist_drop_left g (Nat.le_succ i))
    rwa [List.take_append_drop] at this
  have mem_mid : ∀ {A D : List Bun} {x : Bun}, (A ++ x :: D).Nodup → ∀ z, z ∈ A ++ D ↔ z ∈ A ++ x :: D ∧ z ≠ x := fun {A D x} hnd z => by
    rw [List.nodup_append] at hnd
    obtain ⟨_, n2, n3⟩ := hnd
    rw [List.nodup_cons] at n2
    simp only [List.mem_append, List.mem_cons]
    constructor
    · rintro (hz | hz)
      · exact ⟨.inl hz, fun e => n3 z hz x (List.mem_cons_self ..) e⟩
      · exact ⟨.inr (.inr hz), fun e => by subst e; exact n2.1 hz⟩
    · rintro ⟨hz | hz | hz, hne⟩
      · exact .inl hz
      · exact absurd hz hne
      · exact .inr hz
  refine ⟨g[i], _, a ++ c, hn, ⟨hD.gi.sub hsub, k1, fun z => ?_, ?_⟩, ?_, by rw [k2, ← hac], (hD.gi.ok _ (List.getElem_mem h1)).2, (hD.gi.ok _ (List.getElem_mem h1)).1⟩
  · have m1 := mem_mid (by rw [← hsp]; exact hnd) z (A := g.take i) (D := g.drop (i + 1)) (x := g[i])
    have m2 := mem_mid hndo z
    rw [← hsp] at m1
    rw [m1, m2, hD.mem, hac]
  · have := hD.len
    have e1 := congrArg List.length hsp
    have e2 := congrArg List.length hac
    simp only [List.length_append, List.length_cons] at e1 e2 ⊢
    omega
  · have e2 := congrArg List.length hac
    simp only [List.length_append, List.length_cons] at e2 ⊢
    omega
/-! a vector with nothing beyond the centers -/
def nrmV (v : Int → Int) : Int → Int := fun d => if 0 ≤ d ∧ d < 4 then v d else 0
theorem nrm_E (v : Int → Int) : vecE v = vecE (nrmV v) := by simp [vecE, nrmV]
theorem nrm_may (v : Int → Int) : mayV (nrmV v) = mayV v := by simp [mayV, nrmV]
theorem nrm_mx {v : Int → Int} (h : mayV (nrmV v) = true) : mxV (fun _ => 0) (nrmV v) = nrmV v := by
  funext d
  have h2 := mayV_iff.1 h d
  show mx 0 (nrmV v d) = nrmV v d
  unfold mx
  by_cases hd : 0 ≤ d ∧ d < 4
  · have := h2 hd.1 hd.2
    split <;> omega
  · have e : nrmV v d = 0 := if_neg hd
    rw [e]
    rfl
/-! what goes -/
theorem goes3 {b : Buf} (hs : b.self = 0) (hc : b.cn = 3) (x : Bun) : goesB b x = (knownB x (b.has 1) && knownB x (b.has 2)) := by
  unfold goesB
  rw [hc]
  show allW b x 3 = _
  simp [allW, hs]
theorem col_count {l : List Bun} {b : Buf} (hm : b.m.map (·.2) = l.filter fun x => rightB x) (p : Bun → Bool) (hp : ∀ x, goesB b x = p x) (hr : ∀ x, p x = true → rightB x = true) : colN b = l.countP p ∧ (stayM b b.m).length = b.m.length - l.countP p := by
  have e1 : (b.m.map (·.2)).countP p = l.countP p := by
    rw [hm, List.countP_filter]
    refine List.countP_congr fun x _ => ?_
    rw [Bool.and_eq_true]
    exact ⟨fun h => h.1, fun h => ⟨h, hr x h⟩⟩
  have e2 : (stayM b b.m).length + (b.m.map (·.2)).countP p = b.m.length := by
    unfold stayM
    rw [List.countP_map, ← List.countP_eq_length_filter]
    have := List.length_eq_countP_add_countP (fun q : Int × Bun => !goesB b q.2) (l := b.m)
    have e3 : b.m.countP (fun q => decide ¬(!goesB b q.2) = true) = b.m.countP (p ∘ fun q => q.2) := List.countP_congr fun q _ => by simp [hp]
    omega
  unfold colN
  constructor <;> omega
end Go.Proofs.YtlghgdgpbnlpmaaGreat
