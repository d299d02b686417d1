/- What is proved: how lists of the program's data lie in memory, as abstract values. Conditions: none. -/
import Derived.Test.YtlghgdgpbnlpmaaGreatTy
namespace Go.Proofs.YtlghgdgpbnlpmaaGreat
open Go.RowKit

abbrev i64 (n : Int) : AV := .int .i64 n
def intE (x : Int) : List AV := [i64 x]
def runE (x : Int × Int) : List AV := [i64 x.1, i64 x.2]
def strE (s : ByteArray) : List AV := [.str s]
/-- a list, as a slice -/
abbrev lstE {α : Type} (f : α → List AV) (l : List α) : AV := .lst l.length (l.map f)
theorem map_snoc {α β : Type} {f : α → β} {l : List α} {i : Nat} (h : i < l.length) : (l.take i).map f ++ [f l[i]] = (l.take (i + 1)).map f := by
  rw [List.take_succ_eq_append_getElem h, List.map_append]; rfl
theorem take_snoc {α : Type} {l : List α} {i : Nat} (h : i < l.length) : l.take i ++ [l[i]] = l.take (i + 1) := (List.take_succ_eq_append_getElem h).symm
end Go.Proofs.YtlghgdgpbnlpmaaGreat
