/- What is proved: the plain law of contexts. Conditions: none. -/
import Derived.Test.YtailblpjmgabjaaLb
import Derived.Test.YtailblpjmgabjaaKp
import Derived.Test.YtailblpjmgabjaaTf
import Derived.Test.YtailblpjmgabjaaTh
import Derived.Test.YtailblpjmgabjaaTp
import Derived.Test.YtailblpjmgabjaaKw
namespace Go.Proofs.Ytailblpjmgabjaa
set_option linter.unusedVariables false
set_option linter.unusedSimpArgs false
theorem four {p : Int → Prop} (h0 : p 0) (h1 : p 1) (h2 : p 2) (h3 : p 3) : ∀ d : Int, 0 ≤ d → d < 4 → p d := fun d k0 k4 => by
  have : d = 0 ∨ d = 1 ∨ d = 2 ∨ d = 3 := by omega
  rcases this with rfl | rfl | rfl | rfl <;> assumption
theorem whole_len (p : Int → List (Int × Int)) : (whole p).length = (p 0).length + (p 1).length + (p 2).length + (p 3).length := by
  unfold whole; simp only [List.length_append, List.length_map]; omega
section two
variable {a b : List Spn}
end two
/-! dots -/
def nums (l : List (Int × Int)) (d : Int) : List Int := (l.filter fun x => decide (x.1 = d)).map fun x => x.2
theorem nums_take {c : List (Int × Int)} {i : Nat} (h : i < c.length) (d : Int) : nums (c.take (i + 1)) d = nums (c.take i) d ++ (if c[i].1 = d then [c[i].2] else []) := by
  unfold nums
  rw [← take_snoc h, List.filter_append, List.map_append]
  congr 1
  by_cases hd : c[i].1 = d <;> simp [hd]
theorem nums_len (c : List (Int × Int)) (d : Int) : (nums c d).length ≤ c.length := by
  unfold nums; rw [List.length_map]; exact List.length_filter_le _ _
theorem nums_take_len (c : List (Int × Int)) (i : Nat) (d : Int) : (nums (c.take i) d).length ≤ i := Nat.le_trans (nums_len _ _) (by simp; omega)
theorem nums_ok {l : List (Int × Int)} (h : l.all okDot = true) (d : Int) : (nums l d).all okNum = true := by
  rw [List.all_eq_true]
  intro x hx
  obtain ⟨y, hy, rfl⟩ := List.mem_map.1 hx
  have := okDot_iff.1 (List.all_eq_true.1 h y (List.mem_filter.1 hy).1)
  unfold okNum
  simp [this]
def ofC (l : List (Int × Int)) : List Spn := whole fun d => ofL (nums l d)
/-! what is told of one -/
/-! raised -/
end Go.Proofs.Ytailblpjmgabjaa
