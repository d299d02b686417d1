/- What is proved: which values are put together where two sorted lists are merged, in plain words. Conditions: none. -/
import Derived.Test.YteffgknclbcpjaaQo
namespace Go.Proofs.Yteffgknclbcpjaa
set_option linter.unusedVariables false
section cal
variable {α β : Type} {lt : α → α → Bool}
def calM (lt : α → α → Bool) (a b : List (α × β)) : List (β × β) :=
  match a, b with
  | [], _ => []
  | _, [] => []
  | x :: a, y :: b => if lt x.1 y.1 = true then calM lt a (y :: b) else if lt y.1 x.1 = true then calM lt (x :: a) b else (x.2, y.2) :: calM lt a b
termination_by a.length + b.length
theorem cal_nil (b : List (α × β)) : calM lt [] b = [] := by rw [calM]
theorem cal_nil' (a : List (α × β)) : calM lt a [] = [] := by cases a <;> simp [calM]
theorem cal_cons (x y : α × β) (a b : List (α × β)) : calM lt (x :: a) (y :: b) = if lt x.1 y.1 = true then calM lt a (y :: b) else if lt y.1 x.1 = true then calM lt (x :: a) b else (x.2, y.2) :: calM lt a b := by
  rw [calM]
def bothM : Option β → Option β → Option (β × β)
  | some x, some y => some (x, y)
  | _, _ => none
theorem cal_len (f : β → β → β) : ∀ (a b : List (α × β)), (mrgM lt f a b).length + (calM lt a b).length = a.length + b.length
  | [], b => by rw [mrg_nil, cal_nil]; simp
  | x :: a, [] => by rw [mrg_nil', cal_nil']; rfl
  | x :: a, y :: b => by
    rw [mrg_cons, cal_cons]
    split
    · have := cal_len f a (y :: b); simp at *; omega
    · split
      · have := cal_len f (x :: a) b; simp at *; omega
      · have := cal_len f a b; simp at *; omega
termination_by a b => a.length + b.length
theorem get_hd (ko : KO lt) {x : α × β} {a : List (α × β)} : getM lt x.1 (x :: a) = some x.2 := by simp [getM, ko.irr]
theorem get_tl {x : α × β} {a : List (α × β)} {k : α} (h : lt x.1 k = true) : getM lt k (x :: a) = getM lt k a := by simp [getM, h]
theorem get_lo (ko : KO lt) {x : α × β} {a : List (α × β)} {k : α} (h : lt k x.1 = true) : getM lt k (x :: a) = none := by simp [getM, h, ko.asym h]
theorem fil_congr {γ : Type} {f g : α × β → Option γ} : ∀ {l : List (α × β)}, (∀ p ∈ l, f p = g p) → l.filterMap f = l.filterMap g
  | [], _ => rfl
  | p :: l, h => by
    rw [List.filterMap_cons, List.filterMap_cons, h p (List.mem_cons_self ..), fil_congr fun q hq => h q (List.mem_cons_of_mem _ hq)]
theorem cal_fil (ko : KO lt) (f : β → β → β) : ∀ {a b : List (α × β)}, srtM lt a → srtM lt b → calM lt a b = (mrgM lt f a b).filterMap (fun p => bothM (getM lt p.1 a) (getM lt p.1 b))
  | [], b, ha, hb => by
    rw [cal_nil, mrg_nil]
    symm
    rw [List.filterMap_eq_nil_iff]
    intro p _
    rfl
  | x :: a, [], ha, hb => by
    rw [cal_nil', mrg_nil']
    symm
    rw [List.filterMap_eq_nil_iff]
    intro p _
    show bothM (getM lt p.1 (x :: a)) none = none
    cases getM lt p.1 (x :: a) <;> rfl
  | x :: a, y :: b, ha, hb => by
    have hs := srt_mrg ko f ha hb
    obtain ⟨ha1, ha2⟩ := List.pairwise_cons.1 ha
    obtain ⟨hb1, hb2⟩ := List.pairwise_cons.1 hb
    rw [mrg_cons] at hs ⊢
    rw [cal_cons]
    split
    · rename_i h
      rw [if_pos h] at hs
      have hs := (List.pairwise_cons.1 hs).1
      rw [List.filterMap_cons, get_hd ko, get_lo ko h]
      show _ = List.filterMap _ _
      rw [cal_fil ko f ha2 hb]
      exact fil_congr fun p hp => by rw [get_tl (hs p hp)]
    · rename_i h
      rw [if_neg h] at hs
      split
      · rename_i h'
        rw [if_pos h'] at hs
        have hs := (List.pairwise_cons.1 hs).1
        rw [List.filterMap_cons, get_hd ko, get_lo ko h']
        show _ = List.filterMap _ _
        rw [cal_fil ko f ha hb2]
        exact fil_congr fun p hp => by rw [get_tl (x := y) (hs p hp)]
      · rename_i h'
        rw [if_neg h'] at hs
        have hs := (List.pairwise_cons.1 hs).1
        have e : x.1 = y.1 := ko.eq (by simpa using h) (by simpa using h')
        have ey : getM lt x.1 (y :: b) = some y.2 := by rw [e]; exact get_hd ko
        rw [List.filterMap_cons_some (b := (x.2, y.2)) (by show bothM (getM lt x.1 (x :: a)) (getM lt x.1 (y :: b)) = _; rw [get_hd ko, ey]; rfl), cal_fil ko f ha2 hb2]
        congr 1
        exact fil_congr fun p hp => by rw [get_tl (x := x) (hs p hp), get_tl (x := y) (by rw [← e]; exact hs p hp)]
termination_by a b => a.length + b.length
variable {a b : List (α × β)} {i k : Nat}
theorem cal_lt (hi : i < a.length) (hk : k < b.length) (h : lt a[i].1 b[k].1 = true) : calM lt (a.drop i) (b.drop k) = calM lt (a.drop (i + 1)) (b.drop k) := by
  rw [List.drop_eq_getElem_cons hi, List.drop_eq_getElem_cons hk, cal_cons, if_pos h]
theorem cal_gt (hi : i < a.length) (hk : k < b.length) (h : lt a[i].1 b[k].1 = false) (h' : lt b[k].1 a[i].1 = true) : calM lt (a.drop i) (b.drop k) = calM lt (a.drop i) (b.drop (k + 1)) := by
  rw [List.drop_eq_getElem_cons hi, List.drop_eq_getElem_cons hk, cal_cons, if_neg (by rw [h]; simp), if_pos h']
theorem cal_eq (hi : i < a.length) (hk : k < b.length) (h : lt a[i].1 b[k].1 = false) (h' : lt b[k].1 a[i].1 = false) : calM lt (a.drop i) (b.drop k) = (a[i].2, b[k].2) :: calM lt (a.drop (i + 1)) (b.drop (k + 1)) := by
  rw [List.drop_eq_getElem_cons hi, List.drop_eq_getElem_cons hk, cal_cons, if_neg (by rw [h]; simp), if_neg (by rw [h']; simp)]
theorem cal_l : calM lt (a.drop i) (b.drop b.length) = [] := by rw [List.drop_length, cal_nil']
theorem cal_r : calM lt (a.drop a.length) (b.drop k) = [] := by rw [List.drop_length, cal_nil]
end cal
section fil
variable {α γ : Type} {g : α → Option γ} {M : List α} {k : Nat}
theorem fil_some {c : γ} (hk : k < M.length) (h : g M[k] = some c) : (M.take (k + 1)).filterMap g = (M.take k).filterMap g ++ [c] := by
  rw [List.take_succ_eq_append_getElem hk, List.filterMap_append, List.filterMap_cons, h]
  rfl
theorem fil_none (hk : k < M.length) (h : g M[k] = none) : (M.take (k + 1)).filterMap g = (M.take k).filterMap g := by
  rw [List.take_succ_eq_append_getElem hk, List.filterMap_append, List.filterMap_cons, h]
  simp
theorem fil_at {c : γ} (hk : k < M.length) (h : g M[k] = some c) : ∃ hl : ((M.take k).filterMap g).length < (M.filterMap g).length, (M.filterMap g)[((M.take k).filterMap g).length] = c := by
  have e : M.filterMap g = (M.take k).filterMap g ++ c :: (M.drop (k + 1)).filterMap g := by
    conv => lhs; rw [← List.take_append_drop k M, List.filterMap_append, List.drop_eq_getElem_cons hk, List.filterMap_cons, h]
  have hl : ((M.take k).filterMap g).length < (M.filterMap g).length := by rw [e]; simp
  refine ⟨hl, ?_⟩
  have h2 : (M.filterMap g)[((M.take k).filterMap g).length]? = some c := by rw [e]; simp
  exact (List.getElem?_eq_some_iff.1 h2).2
end fil
end Go.Proofs.Yteffgknclbcpjaa
