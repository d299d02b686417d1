/- What is proved: what slices.SortFunc does at runs (two whole numbers), by the shelf's contract. Conditions: none. -/
import Derived.Test.YtlghgdgpbnlpmaaGreatMKa
import Derived.Test.YtlghgdgpbnlpmaaGreatLay
import Derived.Lib.OwnBridge
import Derived.WalkKit
import Derived.Test.YtlghgdgpbnlpmaaGreatMTb
import Derived.Test.YtlghgdgpbnlpmaaGreatMTa
namespace Go.Proofs.YtlghgdgpbnlpmaaGreat
open Go.RowKit Go.Shelf Go.Lib Go.Sort
set_option linter.unusedSimpArgs false
set_option linter.unusedVariables false
def runW (x : Int × Int) : List Value := [.int .i64 x.1, .int .i64 x.2]
def runV (x : Int × Int) : List Value := [.int .i64 x.1, .int .i64 x.2]
set_option maxHeartbeats 1000000 in
theorem closureOf (x y : Int × Int) (W : World) : Calls Tryz.prog 150 #[.agg #[.int .i64 x.1, .int .i64 x.2], .agg #[.int .i64 y.1, .int .i64 y.2]] W fun e w' => e = .returned (.int .i64 (Lib.compareInt x.1 y.1)) ∧ ∃ q os', w' = grow (W.drewN q) os' := by
  have hcon := fun W' => AnyG.cmp_Compare_int Tryz.cmpInt64 x.1 y.1 W'
  change ∀ W', Calls Tryz.prog 115 _ _ _ at hcon
  generalize Lib.compareInt x.1 y.1 = r at hcon ⊢
  go_enter Tryz.func150, Tryz.ntmps150
  go_wp2_with (go_at_call 115; refine (hcon _).mono ?_; rintro e w' ⟨rfl, rfl⟩)
  go_ret
  exact ⟨rfl, 0, _, by rw [alloc_eq_grow, alloc_eq_grow, grow_grow]; rfl⟩
theorem flatK_list (zs : List (Int × Int)) : (flatK runV 2 zs.toArray).toList = (zs.map runW).flatten := by
  have hall : ∀ r ∈ zs.map runW, r.length = 2 := fun r hr => by obtain ⟨x, _, rfl⟩ := List.mem_map.1 hr; rfl
  have hlen := flatten_len (zs.map runW) hall
  rw [List.length_map] at hlen
  have hsz : (flatK runV 2 zs.toArray).size = zs.length * 2 := by simp
  apply List.ext_getElem?
  intro t
  by_cases ht : t < zs.length * 2
  · have h1 : t / 2 < zs.length := by omega
    have h2 : (flatK runV 2 zs.toArray)[t]! = (runV zs.toArray[t / 2]!)[t % 2]! := get_flatK _ _ _ _ (by simpa using ht)
    have h3 : zs.toArray[t / 2]! = zs[t / 2] := by simp [getElem!_pos, h1]
    have h4 : (zs.map runW)[t / 2]? = some (runW zs[t / 2]) := by rw [List.getElem?_map, List.getElem?_eq_getElem h1]; rfl
    have h5 : (runW zs[t / 2])[t % 2]? = some (runV zs[t / 2])[t % 2]! := by
      rcases Nat.mod_two_eq_zero_or_one t with h | h <;> rw [h] <;> rfl
    have h6 := flatten_at hall h4 h5
    rw [show t / 2 * 2 + t % 2 = t by omega] at h6
    rw [h6, Array.getElem?_toList, Array.getElem?_eq_getElem (by rw [hsz]; exact ht), ← getElem!_pos (flatK runV 2 zs.toArray) t (by rw [hsz]; exact ht), h2, h3]
  · rw [List.getElem?_eq_none (by rw [Array.length_toList, hsz]; omega), List.getElem?_eq_none (by rw [hlen]; omega)]

def lt1 (x y : Int × Int) : Int := Lib.compareInt x.1 y.1
theorem lt1_eq (x y : Int × Int) : ltOf lt1 x y = decide (x.1 < y.1) := by
  unfold ltOf lt1 Lib.compareInt
  by_cases h1 : x.1 < y.1
  · simp [h1]
  · by_cases h2 : y.1 < x.1 <;> simp [h1, h2]
theorem swo1 : SWO (ltOf lt1) where
  irrefl x := by rw [lt1_eq]; simp
  trans x y z h1 h2 := by rw [lt1_eq] at *; simp at *; omega
  ntrans x y z h1 h2 := by rw [lt1_eq] at *; simp at *; omega

/-- slices.SortFunc on an own row of runs, by their first numbers: a permutation that rises -/
theorem sort_c (H : Hp) {g : Nat} (eg : ∀ args w, (callFunc g args).run Tryz.prog w = .ok (.enter g args) w)
    (hcl : ∀ (x y : Int × Int) (W : World), Calls Tryz.prog g #[.agg #[.int .i64 x.1, .int .i64 x.2], .agg #[.int .i64 y.1, .int .i64 y.2]] W fun e w' => e = .returned (.int .i64 (Lib.compareInt x.1 y.1)) ∧ ∃ q os', w' = grow (W.drewN q) os')
    {a : Option Addr} {c : Nat} {E : TypeId} {d : List (Int × Int)} (hd : d.length ≤ 1000000) :
    Fn Tryz.prog 149 #[.slice a d.length c, .func (.func g) #[] #[]] H [.row (.slice a d.length c) E 2 (d.map runW)]
      (fun v H' O => H' = H ∧ ∃ d' : List (Int × Int), d'.Perm d ∧ d'.Pairwise (fun x y => x.1 ≤ y.1) ∧ O = [.row (.slice a d.length c) E 2 (d'.map runW)]) := by
  refine ⟨Tryz.call149, fun w hs => ?_⟩
  obtain ⟨hown, hlens⟩ := hs.holds _ (List.mem_singleton.2 rfl)
  rw [List.length_map] at hown
  by_cases h0 : d.length = 0
  · have hd0 : d = [] := List.eq_nil_of_length_eq_zero h0
    subst hd0
    have hcon := AnyF.slices_SortFunc_none Tryz.sortRun a c (.func (.func g) #[] #[]) w
    change Calls Tryz.prog 149 _ _ _ at hcon
    refine hcon.mono fun e w' ⟨he, hw⟩ => ?_
    subst hw
    exact ⟨_, H, _, he, hs, rfl, [], List.Perm.refl _, List.Pairwise.nil, rfl⟩
  · rcases hown.2 with ⟨_, h⟩ | ⟨b, cap, cur, hv, _, hg, hnc, hcm, hcs, ht⟩
    · exact absurd h h0
    · cases hv
      have hlt : b < w.heap.size := by
        rcases Nat.lt_or_ge b w.heap.size with h' | h'
        · exact h'
        · rw [Array.getElem?_eq_none h'] at hg; cases hg
      have hsz : (flatK runV 2 d.toArray).size = d.length * 2 := by simp
      have hH : HoldsK runV 2 w b 0 d.toArray := by
        intro j hj
        have hj' : j < d.length * 2 := by rw [← hsz]; exact hj
        refine ⟨?_, by rw [Nat.zero_add]; exact hown.frozenAt j⟩
        rw [Nat.zero_add, hown.cellAt j hj', ← flatK_list, Array.getElem?_toList, Array.getElem?_eq_getElem hj, getElem!_pos _ j hj]
        rfl
      have hcmp : CmpLays Tryz.prog g #[] runV 2 lt1 b 0 d.toArray.size w := fun _ _ _ _ x y => hcl x y _
      have hcon := AnyQ.slices_SortFunc Tryz.sortRun 2 Tryz.isAgg209 Tryz.sizeOf209 runV (fun _ => rfl) (fun x v hv => by simp [runV] at hv; rcases hv with rfl | rfl <;> rfl) lt1 swo1 g #[] b 0 c d.toArray w eg hcmp hH hlt (by simp; omega)
      change Calls Tryz.prog 149 _ _ _ at hcon
      simp only [List.size_toArray] at hcon
      refine hcon.mono fun e w' ⟨he, d', q, os, hp, hso, hw⟩ => ?_
      have hds : d'.size = d.length := by simpa using hp.1
      have hperm : d'.toList.Perm d := by
        have := hp.2.2
        rw [show d'.extract 0 d.length = d' by rw [← hds]; simp, show d.toArray.extract 0 d.length = d.toArray by simp] at this
        simpa using this
      have hsort : d'.toList.Pairwise (fun x y => x.1 ≤ y.1) := by
        rw [List.pairwise_iff_getElem]
        intro i j hi hj hij
        rw [Array.length_toList] at hi hj
        have := hso i j (Nat.zero_le _) hij (by omega)
        rw [lt1_eq, getElem!_pos d' i hi, getElem!_pos d' j hj] at this
        simp only [decide_eq_false_iff_not] at this
        simp only [Array.getElem_toList]
        omega
      have hF : (flatK runV 2 d').size = d.length * 2 := by simp [hds]
      have hFl : (flatK runV 2 d').toList = (d'.toList.map runW).flatten := by
        have := flatK_list d'.toList
        simpa using this
      have hblk : w'.heap[b]? = some (.cells (putCells id 0 (flatK runV 2 d') cur) E (0, 0)) := by
        rw [hw]
        have hm : ((putRow id (Sort.ahead w q) b 0 (flatK runV 2 d')).heap)[b]? = some (.cells (putCells id 0 (flatK runV 2 d') cur) E (0, 0)) := by
          simp [putRow, mapBlock, Sort.ahead, Array.getElem?_modify, hg, onCells]
        have hlt2 : b < (putRow id (Sort.ahead w q) b 0 (flatK runV 2 d')).heap.size := by simpa [putRow, mapBlock, Sort.ahead] using hlt
        show ((putRow id (Sort.ahead w q) b 0 (flatK runV 2 d')).heap ++ os)[b]? = _
        rw [Array.getElem?_append_left hlt2, hm]
      have hrest : ∀ k, k < w.heap.size → k ≠ b → w'.heap[k]? = w.heap[k]? := by
        intro k hk hne
        rw [hw]
        have hlt2 : k < (putRow id (Sort.ahead w q) b 0 (flatK runV 2 d')).heap.size := by simpa [putRow, mapBlock, Sort.ahead] using hk
        show ((putRow id (Sort.ahead w q) b 0 (flatK runV 2 d')).heap ++ os)[k]? = _
        rw [Array.getElem?_append_left hlt2]
        simp [putRow, mapBlock, Sort.ahead, Array.getElem?_modify, show b ≠ k from fun h => hne h.symm]
      have hsize : w.heap.size ≤ w'.heap.size := by
        rw [hw]
        show w.heap.size ≤ ((putRow id (Sort.ahead w q) b 0 (flatK runV 2 d')).heap ++ os).size
        simp [putRow, mapBlock, Sort.ahead]
      have hown' : w'.ownsRow 0 E 2 (.slice (some ⟨b, 0, none⟩) d.length c) d.length (d'.toList.map runW).flatten := by
        refine ⟨by rw [← hFl, Array.length_toList, hF], .inr ⟨b, c, _, rfl, Nat.zero_le _, hblk, hnc, hcm, by simpa [putCells] using hcs, ?_⟩⟩
        rw [← hFl]
        apply List.ext_getElem?
        intro j
        rw [List.getElem?_take, Array.getElem?_toList, Array.getElem?_toList]
        by_cases hj : j < d.length * 2
        · have hjc : j < cur.size := by rw [hcs]; have := Nat.mul_le_mul_right 2 hnc; omega
          rw [if_pos hj, Array.getElem?_eq_getElem (show j < (flatK runV 2 d').size by omega)]
          simp only [putCells, Array.getElem?_mapIdx, Array.getElem?_eq_getElem hjc, Option.map_some]
          rw [if_pos (by omega), getElem!_pos _ _ (by omega)]
          simp
        · rw [if_neg hj, Array.getElem?_eq_none (by omega)]
      have hlen' : (d'.toList.map runW).length = d.length := by simp [hds]
      have hs' := hs.change (i := 0) (q := .row (.slice (some ⟨b, 0, none⟩) d.length c) E 2 (d'.toList.map runW)) rfl (by rw [hw]; rfl) (by rw [hw]; rfl) (by rw [hw]; rfl) hsize
        (fun k hk hne => hrest k hk (fun e => hne (by rw [e]; rfl))) ⟨by rw [hlen']; exact hown', fun r hr => by obtain ⟨x, _, rfl⟩ := List.mem_map.1 hr; rfl⟩ (fun k hk => .inl hk)
      exact ⟨_, H, _, he, hs', rfl, d'.toList, hperm, hsort, rfl⟩
theorem runs_VLL {E : Env} : ∀ {d : List (Int × Int)} {rs : List (List Value)}, VLL E (d.map runE) rs → rs = d.map runW
  | [], rs, h => by simpa only [List.map_nil, VLL] using h
  | x :: d, rs, h => by
    simp only [List.map_cons, VLL, runE, VL, V] at h
    obtain ⟨us, rs', rfl, ⟨u, us1, rfl, rfl, u2, us2, rfl, rfl, rfl⟩, h2⟩ := h
    rw [runs_VLL h2]; rfl
theorem VLL_runs {E : Env} : ∀ (d : List (Int × Int)), VLL E (d.map runE) (d.map runW)
  | [] => by simp only [List.map_nil, VLL]
  | x :: d => by
    simp only [List.map_cons, VLL, runE, VL, V, runW]
    exact ⟨_, _, rfl, ⟨_, _, rfl, rfl, _, _, rfl, rfl, rfl⟩, VLL_runs d⟩
/-- slices.SortFunc on an own row of runs: a permutation that rises by the first numbers -/
theorem sort_a {g : Nat} (eg : ∀ args w, (callFunc g args).run Tryz.prog w = .ok (.enter g args) w)
    (hcl : ∀ (x y : Int × Int) (W : World), Calls Tryz.prog g #[.agg #[.int .i64 x.1, .int .i64 x.2], .agg #[.int .i64 y.1, .int .i64 y.2]] W fun e w' => e = .returned (.int .i64 (Lib.compareInt x.1 y.1)) ∧ ∃ q os', w' = grow (W.drewN q) os')
    (d : List (Int × Int)) (hd : d.length ≤ 1000000) :
    AFn Tryz.prog 149 [.own 0 d.length, .fn g []] [.row 0 209 2 (d.map runE)]
      (fun r h' => r = .junk ∧ ∃ d' : List (Int × Int), d'.Perm d ∧ d'.Pairwise (fun x y => x.1 ≤ y.1) ∧ h' = [.row 0 209 2 (d'.map runE)]) := by
  intro E vs L hnx hvs hh
  simp only [VL, V] at hvs
  obtain ⟨v0, vs1, rfl, ⟨h0, rfl, a, c, hg, hb⟩, v2, vs2, rfl, ⟨us, rfl, hus⟩, rfl⟩ := hvs
  subst hus
  simp only [VH, VP] at hh
  obtain ⟨q, L', rfl, ⟨hlt, hlen, rs, rfl, hrs⟩, rfl⟩ := hh
  have hrs := runs_VLL hrs
  subst hrs
  rw [hg]
  refine (sort_c E.H eg hcl hd).mono ?_
  rintro v H' O hle ⟨rfl, d', hp, hs, rfl⟩
  refine ⟨E, .junk, [.row 0 209 2 (d'.map runE)], rfl, Env.le.refl E, by simp only [V], ?_, ?_, rfl, d', hp, hs, rfl⟩
  · simp only [VH, VP]
    exact ⟨_, _, rfl, ⟨hlt, ⟨a, c, by rw [hg, List.length_map, hp.length_eq]⟩, _, by rw [hg], VLL_runs d'⟩, rfl⟩
  · rw [hnx]; rfl
end Go.Proofs.YtlghgdgpbnlpmaaGreat
/- What is proved: what Of of package span answers. Conditions: none. -/
namespace Go.Proofs.YtlghgdgpbnlpmaaGreat
open Go.RowKit
set_option linter.unusedVariables false
set_option linter.unusedSimpArgs false
set_option maxRecDepth 100000
set_option maxHeartbeats 8000000
/-- the set of numbers that may be -/
def IsOf (l : List Int) (out : List (Int × Int)) : Prop := RightP out ∧ ∀ y, hasL out y ↔ y ∈ l
structure OfA (l : List Int) (r : AV) : Prop where
  ex : (l.all okNum = true ∧ ∃ out, IsOf l out ∧ out.length ≤ l.length ∧ r = .tup [lstE runE out, i64 0]) ∨ (l.all okNum = false ∧ r = .tup [.lst 0 [], i64 1])
theorem hasL_ones {d : List (Int × Int)} {l : List Int} (h : d.Perm (l.map one)) {y : Int} : hasL d y ↔ y ∈ l := by
  constructor
  · rintro ⟨x, hx, h1, h2⟩
    obtain ⟨z, hz, rfl⟩ := List.mem_map.1 (h.mem_iff.1 hx)
    simp only [one] at h1 h2
    have : y = z := by omega
    rw [this]; exact hz
  · intro hy
    exact ⟨one y, h.mem_iff.2 (List.mem_map_of_mem hy), Int.le_refl _, Int.le_refl _⟩
theorem of_join {d : List (Int × Int)} {l : List Int} (h : d.Perm (l.map one)) (hs : d.Pairwise (fun x y => x.1 ≤ y.1)) (hok : ∀ x ∈ l, okNum x = true) : IsOf l (d.foldl joinStep []) := by
  have hd : ∀ x ∈ d, okP x := fun x hx => by
    obtain ⟨z, hz, rfl⟩ := List.mem_map.1 (h.mem_iff.1 hx)
    have := hok z hz
    simp only [okNum, Bool.and_eq_true, decide_eq_true_eq] at this
    exact ⟨this.1, Int.le_refl _, this.2⟩
  have := join_spec d [] ⟨by simp, List.Pairwise.nil⟩ hd hs (by simp)
  exact ⟨this.1, fun y => by rw [this.2 y, hasL_ones h]; simp [not_hasL_nil]⟩
theorem of_a (l : List Int) (hn : l.length ≤ 1000000) : AFnR Tryz.prog 131 [lstE intE l] (OfA l) := by
  refine afnr_in ty_ok Tryz.call131 Tryz.func131 rfl rfl (by decide +kernel) ?_
  (try conv=>whnf)<;>repeat'((first|exact sNo|refine sT ?_|refine sF ?_|((first|refine sD ?_ ?_|refine sE ?_ ?_|refine sN ?_ ?_|refine sG ?_ ?_)<;>intro ht<;>(first|(cases ht;done)|skip))|refine wr ?_|refine ix ?_|refine ati ?_|refine row ?_|refine app ?_|refine dr ?_|refine VBs.own ?_|fail)<;>(try conv=>whnf))
  refine VLp.mk ⟨[.slot 4 209 2], [], [4, 9], fun k vs h => ∃ i : Nat, vs = [.own 0 i, i64 i] ∧ h = [.row 0 209 2 (((l.take i).map one).map runE)] ∧ i ≤ l.length ∧ k = l.length - i ∧ ∀ x ∈ l.take i, okNum x = true, l.length, ?_⟩
  conv => whnf
  refine ⟨⟨0, rfl, rfl, by omega, by omega, by simp⟩, ?_⟩
  rintro k vs h ⟨i, rfl, rfl, hi, rfl, hg⟩
  by_cases hin : i < l.length
  · (try conv=>whnf)<;>repeat'((first|exact sNo|refine sT ?_|refine sF ?_|((first|refine sD ?_ ?_|refine sE ?_ ?_|refine sN ?_ ?_|refine sG ?_ ?_)<;>intro ht<;>(first|(cases ht;done)|skip))|refine wr ?_|refine ix ?_|refine ati ?_|refine row ?_|refine app ?_|refine dr ?_|refine VBs.own ?_|refine cf (number_a _) ?_|refine cg (number_a _) ?_|refine cz (number_a _) ?_|fail)<;>(try conv=>whnf))
    · refine ⟨.inr ⟨?_, rfl⟩⟩
      rw [List.all_eq_false]
      exact ⟨l[i], List.getElem_mem _, by unfold okNum; rw [ht]; decide⟩
    · refine VRd.mk rfl ⟨l.length - (i + 1), by omega, i + 1, rfl, ?_, by omega, rfl, fun x hx => ?_⟩
      · rw [← take_snoc hin, List.map_append, List.map_append]; rfl
      · rw [← take_snoc hin] at hx
        rcases List.mem_append.1 hx with h | h
        · exact hg x h
        · rw [List.mem_singleton.1 h]; exact ht
  · obtain rfl : i = l.length := by omega
    rw [List.take_length] at hg ⊢
    have hlen : (l.map one).length = l.length := List.length_map ..
    rw [← hlen]
    (try conv=>whnf)<;>repeat'((first|exact sNo|refine sT ?_|refine sF ?_|((first|refine sD ?_ ?_|refine sE ?_ ?_|refine sN ?_ ?_|refine sG ?_ ?_)<;>intro ht<;>(first|(cases ht;done)|skip))|refine wr ?_|refine ix ?_|refine ati ?_|refine row ?_|refine app ?_|refine dr ?_|refine VBs.own ?_|(refine co (sort_a Tryz.call150 closureOf (l.map one) (by omega)) ?_;rintro r h' ⟨rfl,d',hp,hs,rfl⟩;rw [← hp.length_eq])|fail)<;>(try conv=>whnf))
    have h1 : d'.length ≤ 1000000 := by rw [hp.length_eq]; omega
    have hall : l.all okNum = true := List.all_eq_true.2 hg
    have hof := of_join hp hs hg
    have hlo := joinStep_len d' []
    have h2 : ∀ x ∈ d', x.2 ≤ 1099511627776 ∧ -1099511627776 ≤ x.2 := fun x hx => by
      obtain ⟨z, hz, rfl⟩ := List.mem_map.1 (hp.mem_iff.1 hx)
      have := hg z hz
      simp only [okNum, Bool.and_eq_true, decide_eq_true_eq] at this
      simp only [one]; omega
    (try conv=>whnf)<;>repeat'((first|exact sNo|refine sT ?_|refine sF ?_|((first|refine sD ?_ ?_|refine sE ?_ ?_|refine sN ?_ ?_|refine sG ?_ ?_)<;>intro ht<;>(first|(cases ht;done)|skip))|refine wr ?_|refine ix ?_|refine ati ?_|refine row ?_|refine app ?_|refine dr ?_|refine VBs.own ?_|refine cf (joined_a d' h1 h2) ?_|refine cg (joined_a d' h1 h2) ?_|refine cz (joined_a d' h1 h2) ?_|fail)<;>(try conv=>whnf))
    exact ⟨.inl ⟨hall, _, hof, by simp only [List.length_nil] at hlo; rw [hp.length_eq, hlen] at hlo; omega, rfl⟩⟩
end Go.Proofs.YtlghgdgpbnlpmaaGreat
/- What is proved: what Union of package span answers. Conditions: none. -/
namespace Go.Proofs.YtlghgdgpbnlpmaaGreat
open Go.RowKit
set_option linter.unusedVariables false
set_option linter.unusedSimpArgs false
set_option maxRecDepth 100000
set_option maxHeartbeats 8000000
/-- a nil answer counts as an own one -/
theorem AFn.nil {P : Program} {f : FuncId} {args : List AV} {El k : Nat} {R R' : AV → List AP → Prop} (h : AFn P f args [] R') (hR : ∀ r h', R' r h' → R r h' ∨ (r = .nils ∧ h' = [] ∧ R (.own 0 0) [.row 0 El k []])) : AFn P f args [] R := by
  intro E vs L hnx hvs hh
  obtain ⟨h1, h2⟩ := h E vs L hnx hvs hh
  refine ⟨h1, fun w hs => (h2 w hs).mono ?_⟩
  rintro x w' ⟨v, H', O, hx, hse, E', r, h', rfl, hE, hv, hh', hn, hr0⟩
  rcases hR r h' hr0 with hr | ⟨rfl, rfl, hr⟩
  · exact ⟨v, E'.H, O, hx, hse, E', r, h', rfl, hE, hv, hh', hn, hr⟩
  · simp only [VH] at hh'
    subst hh'
    simp only [topN, List.length_nil] at hn
    simp only [V] at hv
    subst hv
    have hg := E'.addG_at (.slice none 0 0)
    rw [hn] at hg
    refine ⟨_, E'.H, _, hx, hse.nilrow El k, E'.addG (.slice none 0 0), .own 0 0, [.row 0 El k []], rfl, hE.trans (E'.addG_le _), ?_, ?_, ?_, hr⟩
    · simp only [V]
      exact ⟨by simp only [Env.addG]; omega, hg.symm, none, 0, rfl, fun h => absurd h (by decide), Nat.le_refl _⟩
    · simp only [VH, VP]
      exact ⟨_, _, rfl, ⟨by simp only [Env.addG]; omega, ⟨none, 0, by rw [hg]; rfl⟩, [], by rw [hg], by simp only [VLL]⟩, rfl⟩
    · simp only [Env.addG, hn]; rfl
end Go.Proofs.YtlghgdgpbnlpmaaGreat
/- What is proved: what chapter 06's reference answers: Right, Has, next, ends, Front, Count, Same, Of. Conditions: none. -/
namespace Go.Proofs.YtlghgdgpbnlpmaaGreat
open Go.RowKit
set_option linter.unusedVariables false
set_option linter.unusedSimpArgs false
set_option maxRecDepth 100000
set_option maxHeartbeats 8000000
theorem rright_a_s (l : List (Int × Int)) (hn : l.length ≤ 1000000) : AFnP Tryz.prog 121 [lstE runE l] (.bool (rightL l)) := by
  refine afnp_in ty_ok Tryz.call121 Tryz.func121 rfl rfl (by decide +kernel) ?_
  (try conv=>whnf)<;>repeat'((first|exact sNo|refine sT ?_|refine sF ?_|((first|refine sD ?_ ?_|refine sE ?_ ?_|refine sN ?_ ?_|refine sG ?_ ?_)<;>intro ht<;>(first|(cases ht;done)|skip))|refine wr ?_|refine ix ?_|refine ati ?_|refine row ?_|refine app ?_|refine dr ?_|refine VBs.own ?_|fail)<;>(try conv=>whnf))
  refine VLp.mk ⟨[], [], [6], fun k vs h => ∃ i : Nat, vs = [i64 i] ∧ i ≤ l.length ∧ k = l.length - i ∧ h = [] ∧ ∀ j, j < i → goodAt l j = true, l.length, ?_⟩
  conv => whnf
  refine ⟨⟨0, rfl, by omega, by omega, rfl, by omega⟩, ?_⟩
  rintro k vs h ⟨i, rfl, hi, rfl, rfl, hg⟩
  by_cases hin : i < l.length
  · have hgi := goodAt_iff (l := l) (i := i) hin
    have hgi' := goodAt_iff' (l := l) (i := i) hin
    rcases Nat.eq_zero_or_pos i with h0 | h0
    · (try conv=>whnf)<;>repeat'((first|exact sNo|refine sT ?_|refine sF ?_|((first|refine sD ?_ ?_|refine sE ?_ ?_|refine sN ?_ ?_|refine sG ?_ ?_)<;>intro ht<;>(first|(cases ht;done)|skip))|refine wr ?_|refine ix ?_|refine ati ?_|refine row ?_|refine app ?_|refine dr ?_|refine VBs.own ?_|fail)<;>(try conv=>whnf))
      all_goals first
        | (refine congrArg AV.bool (rightL_false (show i < l.length by omega) (hgi'.2 ?_)).symm; (try simp only [Bool.not_false, Bool.not_true, Bool.not_eq_false', Bool.not_eq_true', Bool.and_eq_true, Bool.and_eq_false_iff, Bool.or_eq_true, Bool.or_eq_false_iff, decide_eq_true_eq, decide_eq_false_iff_not, beq_iff_eq, beq_eq_false_iff_ne, ne_eq] at *); omega)
        | (have hok : goodAt l i = true := hgi.2 (by (try simp only [Bool.not_false, Bool.not_true, Bool.not_eq_false', Bool.not_eq_true', Bool.and_eq_true, Bool.and_eq_false_iff, Bool.or_eq_true, Bool.or_eq_false_iff, decide_eq_true_eq, decide_eq_false_iff_not, beq_iff_eq, beq_eq_false_iff_ne, ne_eq] at *); omega)
           exact VRd.mk rfl ⟨l.length - (i + 1), by omega, i + 1, rfl, by omega, rfl, rfl, fun j hj => by rcases Nat.lt_succ_iff_lt_or_eq.1 hj with h | rfl; exact hg j h; exact hok⟩)
    · obtain ⟨i0, hi0⟩ : ∃ j, i = j + 1 := ⟨i - 1, by omega⟩
      have hj : (i : Int) - 1 = (i0 : Int) := by omega
      have hi1 : i - 1 = i0 := by omega
      simp only [hi1] at hgi hgi'
      have hp := (goodAt_iff (l := l) (i := i0) (by omega)).1 (hg _ (by omega))
      (try conv=>whnf)<;>repeat'((first|exact sNo|refine sT ?_|refine sF ?_|((first|refine sD ?_ ?_|refine sE ?_ ?_|refine sN ?_ ?_|refine sG ?_ ?_)<;>intro ht<;>(first|(cases ht;done)|skip))|refine wr ?_|refine ix ?_|refine ati ?_|refine row ?_|refine app ?_|refine dr ?_|refine VBs.own ?_|fail)<;>(try conv=>whnf))
      all_goals first
        | (refine congrArg AV.bool (rightL_false (show i < l.length by omega) (hgi'.2 ?_)).symm; (try simp only [Bool.not_false, Bool.not_true, Bool.not_eq_false', Bool.not_eq_true', Bool.and_eq_true, Bool.and_eq_false_iff, Bool.or_eq_true, Bool.or_eq_false_iff, decide_eq_true_eq, decide_eq_false_iff_not, beq_iff_eq, beq_eq_false_iff_ne, ne_eq] at *); omega)
        | (have hok : goodAt l i = true := hgi.2 (by (try simp only [Bool.not_false, Bool.not_true, Bool.not_eq_false', Bool.not_eq_true', Bool.and_eq_true, Bool.and_eq_false_iff, Bool.or_eq_true, Bool.or_eq_false_iff, decide_eq_true_eq, decide_eq_false_iff_not, beq_iff_eq, beq_eq_false_iff_ne, ne_eq] at *); omega)
           exact VRd.mk rfl ⟨l.length - (i + 1), by omega, i + 1, rfl, by omega, rfl, rfl, fun j hj => by rcases Nat.lt_succ_iff_lt_or_eq.1 hj with h | rfl; exact hg j h; exact hok⟩)
  · (try conv=>whnf)<;>repeat'((first|exact sNo|refine sT ?_|refine sF ?_|((first|refine sD ?_ ?_|refine sE ?_ ?_|refine sN ?_ ?_|refine sG ?_ ?_)<;>intro ht<;>(first|(cases ht;done)|skip))|refine wr ?_|refine ix ?_|refine ati ?_|refine row ?_|refine app ?_|refine dr ?_|refine VBs.own ?_|fail)<;>(try conv=>whnf))
    exact congrArg AV.bool (rightL_true fun j hj => hg j (by omega)).symm
theorem any_take {α : Type} {p : α → Bool} {l : List α} {i : Nat} (h : i < l.length) (h0 : (l.take i).any p = false) (h1 : p l[i] = false) : (l.take (i + 1)).any p = false := by
  rw [← take_snoc h, List.any_append, h0]; simp [h1]
theorem any_at {α : Type} {p : α → Bool} {l : List α} {i : Nat} (h : i < l.length) (h1 : p l[i] = true) : l.any p = true := List.any_eq_true.2 ⟨_, List.getElem_mem h, h1⟩
theorem rhas_a (l : List (Int × Int)) (hn : l.length ≤ 1000000) (n : Int) : AFnP Tryz.prog 124 [lstE runE l, i64 n] (.bool (l.any (inRun n))) := by
  refine afnp_in ty_ok Tryz.call124 Tryz.func124 rfl rfl (by decide +kernel) ?_
  (try conv=>whnf)<;>repeat'((first|exact sNo|refine sT ?_|refine sF ?_|((first|refine sD ?_ ?_|refine sE ?_ ?_|refine sN ?_ ?_|refine sG ?_ ?_)<;>intro ht<;>(first|(cases ht;done)|skip))|refine wr ?_|refine ix ?_|refine ati ?_|refine row ?_|refine app ?_|refine dr ?_|refine VBs.own ?_|fail)<;>(try conv=>whnf))
  refine VLp.mk ⟨[], [], [8], fun k vs h => ∃ i : Nat, vs = [i64 i] ∧ i ≤ l.length ∧ k = l.length - i ∧ h = [] ∧ (l.take i).any (inRun n) = false, l.length, ?_⟩
  conv => whnf
  refine ⟨⟨0, rfl, by omega, by omega, rfl, rfl⟩, ?_⟩
  rintro k vs h ⟨i, rfl, hi, rfl, rfl, hg⟩
  by_cases hin : i < l.length
  · (try conv=>whnf)<;>repeat'((first|exact sNo|refine sT ?_|refine sF ?_|((first|refine sD ?_ ?_|refine sE ?_ ?_|refine sN ?_ ?_|refine sG ?_ ?_)<;>intro ht<;>(first|(cases ht;done)|skip))|refine wr ?_|refine ix ?_|refine ati ?_|refine row ?_|refine app ?_|refine dr ?_|refine VBs.own ?_|fail)<;>(try conv=>whnf))
    all_goals first
      | exact congrArg AV.bool (any_at hin (by simp only [inRun]; (try simp only [Bool.not_false, Bool.not_true, Bool.not_eq_false', Bool.not_eq_true', Bool.and_eq_true, Bool.and_eq_false_iff, Bool.or_eq_true, Bool.or_eq_false_iff, decide_eq_true_eq, decide_eq_false_iff_not, beq_iff_eq, beq_eq_false_iff_ne, ne_eq] at *); omega)).symm
      | exact VRd.mk rfl ⟨l.length - (i + 1), by omega, i + 1, rfl, by omega, rfl, rfl, any_take hin hg (by simp only [inRun]; (try simp only [Bool.not_false, Bool.not_true, Bool.not_eq_false', Bool.not_eq_true', Bool.and_eq_true, Bool.and_eq_false_iff, Bool.or_eq_true, Bool.or_eq_false_iff, decide_eq_true_eq, decide_eq_false_iff_not, beq_iff_eq, beq_eq_false_iff_ne, ne_eq] at *); omega)⟩
  · (try conv=>whnf)<;>repeat'((first|exact sNo|refine sT ?_|refine sF ?_|((first|refine sD ?_ ?_|refine sE ?_ ?_|refine sN ?_ ?_|refine sG ?_ ?_)<;>intro ht<;>(first|(cases ht;done)|skip))|refine wr ?_|refine ix ?_|refine ati ?_|refine row ?_|refine app ?_|refine dr ?_|refine VBs.own ?_|fail)<;>(try conv=>whnf))
    rw [List.take_of_length_le (by omega)] at hg
    rw [hg]
def nextE (acc : Option Int) : AV := .tup [i64 (acc.getD 0), .bool acc.isSome]
theorem next_a (l : List Int) (hn : l.length ≤ 1000000) (above : Int) : AFnP Tryz.prog 123 [lstE intE l, i64 above] (nextE (l.foldl (nextF above) none)) := by
  refine afnp_in ty_ok Tryz.call123 Tryz.func123 rfl rfl (by decide +kernel) ?_
  (try conv=>whnf)<;>repeat'((first|exact sNo|refine sT ?_|refine sF ?_|((first|refine sD ?_ ?_|refine sE ?_ ?_|refine sN ?_ ?_|refine sG ?_ ?_)<;>intro ht<;>(first|(cases ht;done)|skip))|refine wr ?_|refine ix ?_|refine ati ?_|refine row ?_|refine app ?_|refine dr ?_|refine VBs.own ?_|fail)<;>(try conv=>whnf))
  refine VLp.mk ⟨[], [], [6, 7, 11], fun k vs h => ∃ (i : Nat) (acc : Option Int), vs = [i64 (acc.getD 0), .bool acc.isSome, i64 i] ∧ i ≤ l.length ∧ k = l.length - i ∧ h = [] ∧ acc = (l.take i).foldl (nextF above) none, l.length, ?_⟩
  conv => whnf
  refine ⟨⟨0, none, rfl, by omega, by omega, rfl, rfl⟩, ?_⟩
  rintro k vs h ⟨i, acc, rfl, hi, rfl, rfl, hacc⟩
  by_cases hin : i < l.length
  · have hnext := foldl_take (f := nextF above) (z := none) hin
    rw [← hacc] at hnext
    clear hacc
    rcases acc with _ | b
    · (try conv=>whnf)<;>repeat'((first|exact sNo|refine sT ?_|refine sF ?_|((first|refine sD ?_ ?_|refine sE ?_ ?_|refine sN ?_ ?_|refine sG ?_ ?_)<;>intro ht<;>(first|(cases ht;done)|skip))|refine wr ?_|refine ix ?_|refine ati ?_|refine row ?_|refine app ?_|refine dr ?_|refine VBs.own ?_|fail)<;>(try conv=>whnf))
      · exact VRd.mk rfl ⟨l.length - (i + 1), by omega, i + 1, none, rfl, by omega, rfl, rfl, by rw [hnext, nextF_keep (.inl ht)]⟩
      · exact VRd.mk rfl ⟨l.length - (i + 1), by omega, i + 1, some l[i], rfl, by omega, rfl, rfl, by rw [hnext, nextF_take ht (.inl rfl)]⟩
    · (try conv=>whnf)<;>repeat'((first|exact sNo|refine sT ?_|refine sF ?_|((first|refine sD ?_ ?_|refine sE ?_ ?_|refine sN ?_ ?_|refine sG ?_ ?_)<;>intro ht<;>(first|(cases ht;done)|skip))|refine wr ?_|refine ix ?_|refine ati ?_|refine row ?_|refine app ?_|refine dr ?_|refine VBs.own ?_|fail)<;>(try conv=>whnf))
      all_goals first
        | exact VRd.mk rfl ⟨l.length - (i + 1), by omega, i + 1, some l[i], rfl, by omega, rfl, rfl, by rw [hnext, nextF_take (by assumption) (.inr (by assumption))]⟩
        | exact VRd.mk rfl ⟨l.length - (i + 1), by omega, i + 1, some b, rfl, by omega, rfl, rfl, by rw [hnext, nextF_keep (by first | exact .inl (by assumption) | exact .inr ⟨rfl, by assumption⟩)]⟩
  · (try conv=>whnf)<;>repeat'((first|exact sNo|refine sT ?_|refine sF ?_|((first|refine sD ?_ ?_|refine sE ?_ ?_|refine sN ?_ ?_|refine sG ?_ ?_)<;>intro ht<;>(first|(cases ht;done)|skip))|refine wr ?_|refine ix ?_|refine ati ?_|refine row ?_|refine app ?_|refine dr ?_|refine VBs.own ?_|fail)<;>(try conv=>whnf))
    rw [List.take_of_length_le (by omega)] at hacc
    rw [hacc]; rfl
theorem endsL_take {l : List (Int × Int)} {i : Nat} (h : i < l.length) : (l.take (i + 1)).flatMap (fun x => [x.1, x.2 + 1]) = (l.take i).flatMap (fun x => [x.1, x.2 + 1]) ++ [l[i].1, l[i].2 + 1] := by
  rw [← take_snoc h, List.flatMap_append]; simp
def endsL (l : List (Int × Int)) : List Int := l.flatMap fun x => [x.1, x.2 + 1]
theorem ends_a (l : List (Int × Int)) (hn : l.length ≤ 100000) (hR : rightL l = true) : AFn Tryz.prog 122 [lstE runE l] [] (fun r h' => r = .own 0 (endsL l).length ∧ h' = [.row 0 2 1 ((endsL l).map intE)]) := by
  refine afn_in ty_ok Tryz.call122 Tryz.func122 rfl rfl (by decide +kernel) ?_
  (try conv=>whnf)<;>repeat'((first|exact sNo|refine sT ?_|refine sF ?_|((first|refine sD ?_ ?_|refine sE ?_ ?_|refine sN ?_ ?_|refine sG ?_ ?_)<;>intro ht<;>(first|(cases ht;done)|skip))|refine wr ?_|refine ix ?_|refine ati ?_|refine row ?_|refine app ?_|refine dr ?_|refine VBs.own ?_|fail)<;>(try conv=>whnf))
  refine VLp.mk ⟨[.slot 3 2 1], [], [3, 7], fun k vs h => ∃ (i : Nat) (out : List Int), vs = [.own 0 out.length, i64 i] ∧ h = [.row 0 2 1 (out.map intE)] ∧ i ≤ l.length ∧ k = l.length - i ∧ out = endsL (l.take i) ∧ out.length = 2 * i, l.length, ?_⟩
  conv => whnf
  refine ⟨⟨0, [], rfl, rfl, by omega, by omega, rfl, rfl⟩, ?_⟩
  rintro k vs h ⟨i, out, rfl, rfl, hi, rfl, hout, hlen⟩
  by_cases hin : i < l.length
  · have hnext := endsL_take hin
    rw [show (l.take i).flatMap (fun x => [x.1, x.2 + 1]) = out from hout.symm] at hnext
    have hok := (goodAt_iff (l := l) (i := i) (by omega)).1 (rightL_at hR (by omega))
    clear hout
    (try conv=>whnf)<;>repeat'((first|exact sNo|refine sT ?_|refine sF ?_|((first|refine sD ?_ ?_|refine sE ?_ ?_|refine sN ?_ ?_|refine sG ?_ ?_)<;>intro ht<;>(first|(cases ht;done)|skip))|refine wr ?_|refine ix ?_|refine ati ?_|refine row ?_|refine app ?_|refine dr ?_|refine VBs.own ?_|fail)<;>(try conv=>whnf))
    exact VRd.mk rfl ⟨l.length - (i + 1), by omega, i + 1, out ++ [l[i].1, l[i].2 + 1], by simp, by simp [intE], by omega, rfl, hnext.symm, by simp; omega⟩
  · (try conv=>whnf)<;>repeat'((first|exact sNo|refine sT ?_|refine sF ?_|((first|refine sD ?_ ?_|refine sE ?_ ?_|refine sN ?_ ?_|refine sG ?_ ?_)<;>intro ht<;>(first|(cases ht;done)|skip))|refine wr ?_|refine ix ?_|refine ati ?_|refine row ?_|refine app ?_|refine dr ?_|refine VBs.own ?_|fail)<;>(try conv=>whnf))
    rw [List.take_of_length_le (by omega)] at hout
    subst hout
    exact VRt.mk rfl ⟨rfl, rfl⟩
end Go.Proofs.YtlghgdgpbnlpmaaGreat
