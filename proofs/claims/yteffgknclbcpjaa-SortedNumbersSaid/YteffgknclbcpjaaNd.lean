/- What is proved: what a map of numbers holds, in plain words. Conditions: none. -/
import Derived.Test.YteffgknclbcpjaaQa
namespace Go.Proofs.Yteffgknclbcpjaa
set_option linter.unusedVariables false
def lastI (l : List Int) (k : Int) : Nat → Option Nat
  | 0 => none
  | i + 1 => if l[i]? = some k then some i else lastI l k i
def numM (l : List Int) : Nat → List (Int × Nat)
  | 0 => []
  | i + 1 => match l[i]? with
    | some x => putM ltI x i (numM l i)
    | none => numM l i
def zI : Option Nat → Int
  | some j => (j : Nat)
  | none => -1
theorem num_step {l : List Int} {i : Nat} (hi : i < l.length) : numM l (i + 1) = putM ltI l[i] i (numM l i) := by
  rw [numM, List.getElem?_eq_getElem hi]
theorem last_yes {l : List Int} {i : Nat} {k : Int} (hi : i < l.length) (h : l[i] = k) : lastI l k (i + 1) = some i := by
  rw [lastI, List.getElem?_eq_getElem hi, h, if_pos rfl]
theorem last_no {l : List Int} {i : Nat} {k : Int} (hi : i < l.length) (h : l[i] ≠ k) : lastI l k (i + 1) = lastI l k i := by
  rw [lastI, List.getElem?_eq_getElem hi, if_neg (fun e => h (Option.some.inj e))]
theorem num_spec (l : List Int) : ∀ i, i ≤ l.length → srtM ltI (numM l i) ∧ ∀ k, getM ltI k (numM l i) = lastI l k i
  | 0, _ => ⟨List.Pairwise.nil, fun _ => rfl⟩
  | i + 1, hi => by
    obtain ⟨h1, h2⟩ := num_spec l i (by omega)
    rw [num_step (by omega)]
    refine ⟨srt_put koI _ _ h1, fun k => ?_⟩
    by_cases hk : l[i] = k
    · rw [last_yes (by omega) hk, hk, get_put koI]
    · rw [last_no (by omega) hk, get_put' koI (fun e => hk e.symm), h2]
theorem last_lt {l : List Int} {k : Int} : ∀ {i j : Nat}, lastI l k i = some j → ∃ h : j < l.length, j < i ∧ l[j] = k
  | 0, j, h => by cases h
  | i + 1, j, h => by
    rw [lastI] at h
    split at h
    · rename_i h1
      obtain rfl := Option.some.inj h
      obtain ⟨h2, h3⟩ := List.getElem?_eq_some_iff.1 h1
      exact ⟨h2, by omega, h3⟩
    · obtain ⟨h1, h2, h3⟩ := last_lt h
      exact ⟨h1, by omega, h3⟩
theorem last_in {l : List Int} : ∀ {i j : Nat} (hj : j < l.length), j < i → ∃ m, lastI l l[j] i = some m
  | i + 1, j, hj, h => by
    rw [lastI]
    split
    · exact ⟨_, rfl⟩
    · rename_i h1
      refine last_in hj (Nat.lt_of_le_of_ne (by omega) fun e => h1 ?_)
      subst e
      exact List.getElem?_eq_getElem hj
theorem num_len (l : List Int) : ∀ i, i ≤ l.length → (numM l i).length ≤ i
  | 0, _ => Nat.le_refl 0
  | i + 1, hi => by
    rw [num_step (by omega)]
    have := put_len koI l[i] i (numM l i)
    have := num_len l i (by omega)
    omega
theorem num_at {l : List Int} {j : Nat} (hj : j < (numM l l.length).length) : ∃ h : (numM l l.length)[j].2 < l.length, l[(numM l l.length)[j].2] = (numM l l.length)[j].1 := by
  obtain ⟨h1, h2⟩ := num_spec l l.length (Nat.le_refl _)
  have h3 : getM ltI (numM l l.length)[j].1 (numM l l.length) = some (numM l l.length)[j].2 := (get_mem koI h1).2 (List.getElem_mem hj)
  rw [h2] at h3
  obtain ⟨h4, -, h5⟩ := last_lt h3
  exact ⟨h4, h5⟩
theorem num_up {l : List Int} {i j : Nat} (hj : j < (numM l l.length).length) (hij : i < j) : (numM l l.length)[i].1 < (numM l l.length)[j].1 := by
  have := List.pairwise_iff_getElem.1 (num_spec l l.length (Nat.le_refl _)).1 i j (by omega) hj hij
  simpa [ltI] using this
theorem num_del {l : List Int} {k : Int} : (delM ltI k (numM l l.length)).length = (numM l l.length).length - (if (lastI l k l.length).isSome then 1 else 0) := by
  obtain ⟨h1, h2⟩ := num_spec l l.length (Nat.le_refl _)
  have hf : fndM ltI k (numM l l.length) = (lastI l k l.length).isSome := by unfold fndM; rw [h2]
  rw [← hf]
  cases h : fndM ltI k (numM l l.length)
  · rw [del_no h]; rfl
  · obtain ⟨hp, -⟩ := (fnd_iff koI).1 h
    rw [del_yes h]
    simp only [List.length_append, List.length_take, List.length_drop, if_true]
    omega
end Go.Proofs.Yteffgknclbcpjaa
