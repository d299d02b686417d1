/-
  No cell of these rows narrows 'for every input' (looked for: loops, veiled, ifaces, maps, wideKeys, modest, calm, conditions, laid).
  DERIVED. THE GIVEN ROWS OF THIS SEAT. 5 by the template 'for every input the law returns true; each argument reads behind the call as it read before'; 0 by the template 'total and deterministic' (their statements: YtcfiobecokbbdaaTotals.lean).
  GIVEN WITH THE SEED: the statements are not yours to turn. If you find one false, say at which input.
  Laid BY PROGRAM, IN A SANDBOX (cutbox-rows.mjs): the forced cells as the released guide's own fill.sh prints them over the translation c65c4ea840d57c3d… (all of the seat's roots in one cut). By AI agents, Wed Nov 11 2026. No macro, syntax, notation, axiom, sorry.
-/
import Derived.Test.YtcfiobecokbbdaaChecked
import GoSem.Claim
import GoSem.ClaimJoined
import GoSem.ClaimMapViews
import Derived.JoinedTies
import Derived.KernelRfl
namespace Go.Proofs.Ytcfiobecokbbdaa
/- THE CELL 'sum', in the pinned program and in every row, IS THE sha256 OF THE DUMP (.gsa) THAT YtcfiobecokbbdaaProg.lean LOADS. Nothing in Lean hashes anything: it is a label: what it is worth is what the hold of that sum in a sandbox is worth. -/
noncomputable def Try.pinned : Pinned := { name := "ytcfiobecokbbdaa", sum := "c65c4ea840d57c3de18657c8910a04c955d54c22adcde5fd2c56c822dbb9ffb2", checked := Try.checked }
namespace Rows
def none {H : Type} : Left H := { results := [], args := [] }

/-- 'tributarylaw05.DotRight': WHATEVER THE INPUT: true; the input reads as it did. -/
def dotRightSpec : ChangeSpec := { name := "dotRight", fn := fun _ => fun
  | [d] => { results := [.lit (.bool true)], args := [d] }
  | _ => none }
def dotRightRow : OpenClaim := { program := "ytcfiobecokbbdaa", sum := "c65c4ea840d57c3de18657c8910a04c955d54c22adcde5fd2c56c822dbb9ffb2", func := "tributary/tributarylaw05.DotRight", spec := "dotRight", apart := false }
def DotRightSaid : Prop := dotRightRow.holds Try.pinned (OpenSpec.ofChange dotRightSpec)

/-- ITS FALSE NEIGHBOUR: 'it returns false'. Refute it at one input. -/
def dotRightWrong : ChangeSpec := { name := "dotRight", fn := fun _ => fun
  | [d] => { results := [.lit (.bool false)], args := [d] }
  | _ => none }
def DotRightWrongFalsely : Prop := dotRightRow.holds Try.pinned (OpenSpec.ofChange dotRightWrong)

/-- 'tributarylaw05.DotNext': WHATEVER THE INPUT: true; the input reads as it did. -/
def dotNextSpec : ChangeSpec := { name := "dotNext", fn := fun _ => fun
  | [d1, d2] => { results := [.lit (.bool true)], args := [d1, d2] }
  | _ => none }
def dotNextRow : OpenClaim := { program := "ytcfiobecokbbdaa", sum := "c65c4ea840d57c3de18657c8910a04c955d54c22adcde5fd2c56c822dbb9ffb2", func := "tributary/tributarylaw05.DotNext", spec := "dotNext", apart := false }
def DotNextSaid : Prop := dotNextRow.holds Try.pinned (OpenSpec.ofChange dotNextSpec)

/-- ITS FALSE NEIGHBOUR: 'it returns false'. Refute it at one input. -/
def dotNextWrong : ChangeSpec := { name := "dotNext", fn := fun _ => fun
  | [d1, d2] => { results := [.lit (.bool false)], args := [d1, d2] }
  | _ => none }
def DotNextWrongFalsely : Prop := dotNextRow.holds Try.pinned (OpenSpec.ofChange dotNextWrong)

/-- 'tributarylaw05.DotCompares': WHATEVER THE INPUT: true; the input reads as it did. -/
def dotComparesSpec : ChangeSpec := { name := "dotCompares", fn := fun _ => fun
  | [d1, d2] => { results := [.lit (.bool true)], args := [d1, d2] }
  | _ => none }
def dotComparesRow : OpenClaim := { program := "ytcfiobecokbbdaa", sum := "c65c4ea840d57c3de18657c8910a04c955d54c22adcde5fd2c56c822dbb9ffb2", func := "tributary/tributarylaw05.DotCompares", spec := "dotCompares", apart := false }
def DotComparesSaid : Prop := dotComparesRow.holds Try.pinned (OpenSpec.ofChange dotComparesSpec)

/-- ITS FALSE NEIGHBOUR: 'it returns false'. Refute it at one input. -/
def dotComparesWrong : ChangeSpec := { name := "dotCompares", fn := fun _ => fun
  | [d1, d2] => { results := [.lit (.bool false)], args := [d1, d2] }
  | _ => none }
def DotComparesWrongFalsely : Prop := dotComparesRow.holds Try.pinned (OpenSpec.ofChange dotComparesWrong)

/-- 'tributarylaw05.DotOrders': WHATEVER THE INPUT: true; the input reads as it did. -/
def dotOrdersSpec : ChangeSpec := { name := "dotOrders", fn := fun _ => fun
  | [d1, d2, d3] => { results := [.lit (.bool true)], args := [d1, d2, d3] }
  | _ => none }
def dotOrdersRow : OpenClaim := { program := "ytcfiobecokbbdaa", sum := "c65c4ea840d57c3de18657c8910a04c955d54c22adcde5fd2c56c822dbb9ffb2", func := "tributary/tributarylaw05.DotOrders", spec := "dotOrders", apart := false }
def DotOrdersSaid : Prop := dotOrdersRow.holds Try.pinned (OpenSpec.ofChange dotOrdersSpec)

/-- ITS FALSE NEIGHBOUR: 'it returns false'. Refute it at one input. -/
def dotOrdersWrong : ChangeSpec := { name := "dotOrders", fn := fun _ => fun
  | [d1, d2, d3] => { results := [.lit (.bool false)], args := [d1, d2, d3] }
  | _ => none }
def DotOrdersWrongFalsely : Prop := dotOrdersRow.holds Try.pinned (OpenSpec.ofChange dotOrdersWrong)

/-- 'tributarylaw05.DotLeast': WHATEVER THE INPUT: true; the input reads as it did. -/
def dotLeastSpec : ChangeSpec := { name := "dotLeast", fn := fun _ => fun
  | [d] => { results := [.lit (.bool true)], args := [d] }
  | _ => none }
def dotLeastRow : OpenClaim := { program := "ytcfiobecokbbdaa", sum := "c65c4ea840d57c3de18657c8910a04c955d54c22adcde5fd2c56c822dbb9ffb2", func := "tributary/tributarylaw05.DotLeast", spec := "dotLeast", apart := false }
def DotLeastSaid : Prop := dotLeastRow.holds Try.pinned (OpenSpec.ofChange dotLeastSpec)

/-- ITS FALSE NEIGHBOUR: 'it returns false'. Refute it at one input. -/
def dotLeastWrong : ChangeSpec := { name := "dotLeast", fn := fun _ => fun
  | [d] => { results := [.lit (.bool false)], args := [d] }
  | _ => none }
def DotLeastWrongFalsely : Prop := dotLeastRow.holds Try.pinned (OpenSpec.ofChange dotLeastWrong)

/- THE SECOND FORM. 'bulk': how many values and letters a reading holds, each counted each time it is reached (what is shared counts as often as it is met; a slice's spare places count too). A statement '..UptoSaid' is the law's where the arguments, and the package variables that the reading takes, are together of bulk at most 1048576: NARROWER than '..Said'. Prove '..Said' where nothing that the law and all that it calls make is longer than what came in: it says more and counts as full. Else prove '..UptoSaid'. A law counts once. -/
mutual
def uptoBulk {H : Type} : DataW H → Nat
  | .lit (.string bytes) => bytes.length + 1
  | .lit _ => 1
  | .nil => 1
  | .ptr d => uptoBulk d + 1
  | .slice elems spare => uptoBulkAll elems + uptoBulkAll spare + 1
  | .agg parts => uptoBulkAll parts + 1
  | .iface _ d => uptoBulk d + 1
  | .map entries => uptoBulkEntries entries + 1
  | .held _ => 1
def uptoBulkAll {H : Type} : List (DataW H) → Nat
  | [] => 0
  | d :: r => uptoBulk d + uptoBulkAll r
def uptoBulkEntries {H : Type} : List (Lit × DataW H) → Nat
  | [] => 0
  | x :: r => uptoBulkEntry x + uptoBulkEntries r
def uptoBulkEntry {H : Type} : Lit × DataW H → Nat
  | (.string bytes, d) => bytes.length + uptoBulk d + 1
  | (_, d) => uptoBulk d + 1
 end
def uptoSmall : (H : Type) → List (DataW H) → Bool := fun _ ds => decide (uptoBulkAll ds ≤ 1048576)
def OpenSpec.upto (s : _root_.Go.ChangeSpec) : _root_.Go.OpenSpec := { _root_.Go.OpenSpec.ofChange s with cond := some uptoSmall }

/-- 'tributarylaw05.DotRight', WHERE WHAT IT READS IS OF BULK AT MOST 1048576: true; the input reads as it did. -/
def dotRightUptoRow : OpenClaim := { program := "ytcfiobecokbbdaa", sum := "c65c4ea840d57c3de18657c8910a04c955d54c22adcde5fd2c56c822dbb9ffb2", func := "tributary/tributarylaw05.DotRight", spec := "dotRight", apart := false, narrowed := true }
def DotRightUptoSaid : Prop := dotRightUptoRow.holds Try.pinned (OpenSpec.upto dotRightSpec)

/-- 'tributarylaw05.DotNext', WHERE WHAT IT READS IS OF BULK AT MOST 1048576: true; the input reads as it did. -/
def dotNextUptoRow : OpenClaim := { program := "ytcfiobecokbbdaa", sum := "c65c4ea840d57c3de18657c8910a04c955d54c22adcde5fd2c56c822dbb9ffb2", func := "tributary/tributarylaw05.DotNext", spec := "dotNext", apart := false, narrowed := true }
def DotNextUptoSaid : Prop := dotNextUptoRow.holds Try.pinned (OpenSpec.upto dotNextSpec)

/-- 'tributarylaw05.DotCompares', WHERE WHAT IT READS IS OF BULK AT MOST 1048576: true; the input reads as it did. -/
def dotComparesUptoRow : OpenClaim := { program := "ytcfiobecokbbdaa", sum := "c65c4ea840d57c3de18657c8910a04c955d54c22adcde5fd2c56c822dbb9ffb2", func := "tributary/tributarylaw05.DotCompares", spec := "dotCompares", apart := false, narrowed := true }
def DotComparesUptoSaid : Prop := dotComparesUptoRow.holds Try.pinned (OpenSpec.upto dotComparesSpec)

/-- 'tributarylaw05.DotOrders', WHERE WHAT IT READS IS OF BULK AT MOST 1048576: true; the input reads as it did. -/
def dotOrdersUptoRow : OpenClaim := { program := "ytcfiobecokbbdaa", sum := "c65c4ea840d57c3de18657c8910a04c955d54c22adcde5fd2c56c822dbb9ffb2", func := "tributary/tributarylaw05.DotOrders", spec := "dotOrders", apart := false, narrowed := true }
def DotOrdersUptoSaid : Prop := dotOrdersUptoRow.holds Try.pinned (OpenSpec.upto dotOrdersSpec)

/-- 'tributarylaw05.DotLeast', WHERE WHAT IT READS IS OF BULK AT MOST 1048576: true; the input reads as it did. -/
def dotLeastUptoRow : OpenClaim := { program := "ytcfiobecokbbdaa", sum := "c65c4ea840d57c3de18657c8910a04c955d54c22adcde5fd2c56c822dbb9ffb2", func := "tributary/tributarylaw05.DotLeast", spec := "dotLeast", apart := false, narrowed := true }
def DotLeastUptoSaid : Prop := dotLeastUptoRow.holds Try.pinned (OpenSpec.upto dotLeastSpec)

end Rows
end Go.Proofs.Ytcfiobecokbbdaa
