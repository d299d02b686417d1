/- What is proved: what Meet, Minus and Leq of package span answer. Conditions: none. -/
import Derived.Test.YtailblpjmgabjaaTf
import Derived.Test.YtailblpjmgabjaaTh
import Derived.Test.YtailblpjmgabjaaTp
import Derived.Test.YtailblpjmgabjaaSp
namespace Go.Proofs.Ytailblpjmgabjaa
open Go.RowKit
set_option linter.unusedVariables false
set_option linter.unusedSimpArgs false
set_option maxRecDepth 100000
set_option maxHeartbeats 8000000
theorem foldl_take {α β : Type} {f : β → α → β} {l : List α} {i : Nat} {z : β} (h : i < l.length) : (l.take (i + 1)).foldl f z = f ((l.take i).foldl f z) l[i] := by rw [List.take_succ_eq_append_getElem h, List.foldl_append]; rfl
end Go.Proofs.Ytailblpjmgabjaa
