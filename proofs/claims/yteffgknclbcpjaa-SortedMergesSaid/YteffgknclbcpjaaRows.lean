/-
  No cell of these rows narrows 'for every input' (looked for: loops, veiled, ifaces, maps, wideKeys, modest, calm, conditions, laid).
  DERIVED. THE GIVEN ROWS OF THIS SEAT. 6 by the template 'for every input the law returns true; each argument reads behind the call as it read before'; 0 by the template 'total and deterministic' (their statements: YteffgknclbcpjaaTotals.lean).
  GIVEN WITH THE SEED: the statements are not yours to turn. If you find one false, say at which input.
  Laid BY PROGRAM, IN A SANDBOX (cutbox-rows.mjs): the forced cells as the released guide's own fill.sh prints them over the translation 45fb207015842d49… (all of the seat's roots in one cut). By AI agents, Wed Nov 11 2026. No macro, syntax, notation, axiom, sorry.
-/
import Derived.Test.YteffgknclbcpjaaChecked
import GoSem.Claim
import GoSem.ClaimJoined
import GoSem.ClaimMapViews
import Derived.JoinedTies
import Derived.KernelRfl
namespace Go.Proofs.Yteffgknclbcpjaa
/- THE CELL 'sum', in the pinned program and in every row, IS THE sha256 OF THE DUMP (.gsa) THAT YteffgknclbcpjaaProg.lean LOADS. Nothing in Lean hashes anything: it is a label: what it is worth is what the hold of that sum in a sandbox is worth. -/
noncomputable def Try.pinned : Pinned := { name := "yteffgknclbcpjaa", sum := "45fb207015842d491a32c7bddbc272a31705a2236c7852a5176d86edf1d248a9", checked := Try.checked }
namespace Rows
def none {H : Type} : Left H := { results := [], args := [] }

/-- 'tributarylaw01.SortedOrder': WHATEVER THE INPUT: true; the input reads as it did. -/
def sortedOrderSpec : ChangeSpec := { name := "sortedOrder", fn := fun _ => fun
  | [d] => { results := [.lit (.bool true)], args := [d] }
  | _ => none }
def sortedOrderRow : OpenClaim := { program := "yteffgknclbcpjaa", sum := "45fb207015842d491a32c7bddbc272a31705a2236c7852a5176d86edf1d248a9", func := "tributary/tributarylaw01.SortedOrder", spec := "sortedOrder", inPlace := ["slices.overlaps[tributary/sorted.Pair[string, int]]"], unfollowed := true, recurses := true, apart := false }
def SortedOrderSaid : Prop := sortedOrderRow.holds Try.pinned (OpenSpec.ofChange sortedOrderSpec)

/-- ITS FALSE NEIGHBOUR: 'it returns false'. Refute it at one input. -/
def sortedOrderWrong : ChangeSpec := { name := "sortedOrder", fn := fun _ => fun
  | [d] => { results := [.lit (.bool false)], args := [d] }
  | _ => none }
def SortedOrderWrongFalsely : Prop := sortedOrderRow.holds Try.pinned (OpenSpec.ofChange sortedOrderWrong)

/-- 'tributarylaw01.SortedOf': WHATEVER THE INPUT: true; the input reads as it did. -/
def sortedOfSpec : ChangeSpec := { name := "sortedOf", fn := fun _ => fun
  | [d1, d2, d3] => { results := [.lit (.bool true)], args := [d1, d2, d3] }
  | _ => none }
def sortedOfRow : OpenClaim := { program := "yteffgknclbcpjaa", sum := "45fb207015842d491a32c7bddbc272a31705a2236c7852a5176d86edf1d248a9", func := "tributary/tributarylaw01.SortedOf", spec := "sortedOf", inPlace := ["slices.overlaps[tributary/sorted.Pair[string, int]]"], unfollowed := true, recurses := true, apart := false }
def SortedOfSaid : Prop := sortedOfRow.holds Try.pinned (OpenSpec.ofChange sortedOfSpec)

/-- ITS FALSE NEIGHBOUR: 'it returns false'. Refute it at one input. -/
def sortedOfWrong : ChangeSpec := { name := "sortedOf", fn := fun _ => fun
  | [d1, d2, d3] => { results := [.lit (.bool false)], args := [d1, d2, d3] }
  | _ => none }
def SortedOfWrongFalsely : Prop := sortedOfRow.holds Try.pinned (OpenSpec.ofChange sortedOfWrong)

/-- 'tributarylaw01.SortedNumbers': WHATEVER THE INPUT: true; the input reads as it did. -/
def sortedNumbersSpec : ChangeSpec := { name := "sortedNumbers", fn := fun _ => fun
  | [d1, d2] => { results := [.lit (.bool true)], args := [d1, d2] }
  | _ => none }
def sortedNumbersRow : OpenClaim := { program := "yteffgknclbcpjaa", sum := "45fb207015842d491a32c7bddbc272a31705a2236c7852a5176d86edf1d248a9", func := "tributary/tributarylaw01.SortedNumbers", spec := "sortedNumbers", inPlace := ["slices.overlaps[tributary/sorted.Pair[string, int]]", "slices.overlaps[tributary/sorted.Pair[int64, []int]]"], unfollowed := true, recurses := true, apart := false }
def SortedNumbersSaid : Prop := sortedNumbersRow.holds Try.pinned (OpenSpec.ofChange sortedNumbersSpec)

/-- ITS FALSE NEIGHBOUR: 'it returns false'. Refute it at one input. -/
def sortedNumbersWrong : ChangeSpec := { name := "sortedNumbers", fn := fun _ => fun
  | [d1, d2] => { results := [.lit (.bool false)], args := [d1, d2] }
  | _ => none }
def SortedNumbersWrongFalsely : Prop := sortedNumbersRow.holds Try.pinned (OpenSpec.ofChange sortedNumbersWrong)

/-- 'tributarylaw01.SortedMerges': WHATEVER THE INPUT: true; the input reads as it did. -/
def sortedMergesSpec : ChangeSpec := { name := "sortedMerges", fn := fun _ => fun
  | [d1, d2] => { results := [.lit (.bool true)], args := [d1, d2] }
  | _ => none }
def sortedMergesRow : OpenClaim := { program := "yteffgknclbcpjaa", sum := "45fb207015842d491a32c7bddbc272a31705a2236c7852a5176d86edf1d248a9", func := "tributary/tributarylaw01.SortedMerges", spec := "sortedMerges", inPlace := ["slices.overlaps[tributary/sorted.Pair[string, int]]"], unfollowed := true, recurses := true, apart := false }
def SortedMergesSaid : Prop := sortedMergesRow.holds Try.pinned (OpenSpec.ofChange sortedMergesSpec)

/-- ITS FALSE NEIGHBOUR: 'it returns false'. Refute it at one input. -/
def sortedMergesWrong : ChangeSpec := { name := "sortedMerges", fn := fun _ => fun
  | [d1, d2] => { results := [.lit (.bool false)], args := [d1, d2] }
  | _ => none }
def SortedMergesWrongFalsely : Prop := sortedMergesRow.holds Try.pinned (OpenSpec.ofChange sortedMergesWrong)

/-- 'tributarylaw01.SortedLater': WHATEVER THE INPUT: true; the input reads as it did. -/
def sortedLaterSpec : ChangeSpec := { name := "sortedLater", fn := fun _ => fun
  | [d1, d2] => { results := [.lit (.bool true)], args := [d1, d2] }
  | _ => none }
def sortedLaterRow : OpenClaim := { program := "yteffgknclbcpjaa", sum := "45fb207015842d491a32c7bddbc272a31705a2236c7852a5176d86edf1d248a9", func := "tributary/tributarylaw01.SortedLater", spec := "sortedLater", inPlace := ["slices.overlaps[tributary/sorted.Pair[string, int]]"], unfollowed := true, recurses := true, apart := false }
def SortedLaterSaid : Prop := sortedLaterRow.holds Try.pinned (OpenSpec.ofChange sortedLaterSpec)

/-- ITS FALSE NEIGHBOUR: 'it returns false'. Refute it at one input. -/
def sortedLaterWrong : ChangeSpec := { name := "sortedLater", fn := fun _ => fun
  | [d1, d2] => { results := [.lit (.bool false)], args := [d1, d2] }
  | _ => none }
def SortedLaterWrongFalsely : Prop := sortedLaterRow.holds Try.pinned (OpenSpec.ofChange sortedLaterWrong)

/-- 'tributarylaw01.SortedPlays': WHATEVER THE INPUT: true; the input reads as it did. -/
def sortedPlaysSpec : ChangeSpec := { name := "sortedPlays", fn := fun _ => fun
  | [d1, d2, d3] => { results := [.lit (.bool true)], args := [d1, d2, d3] }
  | _ => none }
def sortedPlaysRow : OpenClaim := { program := "yteffgknclbcpjaa", sum := "45fb207015842d491a32c7bddbc272a31705a2236c7852a5176d86edf1d248a9", func := "tributary/tributarylaw01.SortedPlays", spec := "sortedPlays", inPlace := ["slices.overlaps[tributary/sorted.Pair[string, int]]"], unfollowed := true, recurses := true, apart := false }
def SortedPlaysSaid : Prop := sortedPlaysRow.holds Try.pinned (OpenSpec.ofChange sortedPlaysSpec)

/-- ITS FALSE NEIGHBOUR: 'it returns false'. Refute it at one input. -/
def sortedPlaysWrong : ChangeSpec := { name := "sortedPlays", fn := fun _ => fun
  | [d1, d2, d3] => { results := [.lit (.bool false)], args := [d1, d2, d3] }
  | _ => none }
def SortedPlaysWrongFalsely : Prop := sortedPlaysRow.holds Try.pinned (OpenSpec.ofChange sortedPlaysWrong)

/- THE SECOND FORM. 'bulk': how many values and letters a reading holds, each counted each time it is reached (what is shared counts as often as it is met; a slice's spare places count too). A statement '..UptoSaid' is the law's where the arguments, and the package variables that the reading takes, are together of bulk at most 1048576: NARROWER than '..Said'. Prove '..Said' where nothing that the law and all that it calls make is longer than what came in: it says more and counts as full. Else prove '..UptoSaid'. A law counts once. -/
mutual
def uptoBulk {H : Type} : DataW H → Nat
  | .lit (.string bytes) => bytes.length + 1
  | .lit _ => 1
  | .nil => 1
  | .ptr d => uptoBulk d + 1
  | .slice elems spare => uptoBulkAll elems + uptoBulkAll spare + 1
  | .agg parts => uptoBulkAll parts + 1
  | .iface _ d => uptoBulk d + 1
  | .map entries => uptoBulkEntries entries + 1
  | .held _ => 1
def uptoBulkAll {H : Type} : List (DataW H) → Nat
  | [] => 0
  | d :: r => uptoBulk d + uptoBulkAll r
def uptoBulkEntries {H : Type} : List (Lit × DataW H) → Nat
  | [] => 0
  | x :: r => uptoBulkEntry x + uptoBulkEntries r
def uptoBulkEntry {H : Type} : Lit × DataW H → Nat
  | (.string bytes, d) => bytes.length + uptoBulk d + 1
  | (_, d) => uptoBulk d + 1
 end
def uptoSmall : (H : Type) → List (DataW H) → Bool := fun _ ds => decide (uptoBulkAll ds ≤ 1048576)
def OpenSpec.upto (s : _root_.Go.ChangeSpec) : _root_.Go.OpenSpec := { _root_.Go.OpenSpec.ofChange s with cond := some uptoSmall }

/-- 'tributarylaw01.SortedOrder', WHERE WHAT IT READS IS OF BULK AT MOST 1048576: true; the input reads as it did. -/
def sortedOrderUptoRow : OpenClaim := { program := "yteffgknclbcpjaa", sum := "45fb207015842d491a32c7bddbc272a31705a2236c7852a5176d86edf1d248a9", func := "tributary/tributarylaw01.SortedOrder", spec := "sortedOrder", inPlace := ["slices.overlaps[tributary/sorted.Pair[string, int]]"], unfollowed := true, recurses := true, apart := false, narrowed := true }
def SortedOrderUptoSaid : Prop := sortedOrderUptoRow.holds Try.pinned (OpenSpec.upto sortedOrderSpec)

/-- 'tributarylaw01.SortedOf', WHERE WHAT IT READS IS OF BULK AT MOST 1048576: true; the input reads as it did. -/
def sortedOfUptoRow : OpenClaim := { program := "yteffgknclbcpjaa", sum := "45fb207015842d491a32c7bddbc272a31705a2236c7852a5176d86edf1d248a9", func := "tributary/tributarylaw01.SortedOf", spec := "sortedOf", inPlace := ["slices.overlaps[tributary/sorted.Pair[string, int]]"], unfollowed := true, recurses := true, apart := false, narrowed := true }
def SortedOfUptoSaid : Prop := sortedOfUptoRow.holds Try.pinned (OpenSpec.upto sortedOfSpec)

/-- 'tributarylaw01.SortedNumbers', WHERE WHAT IT READS IS OF BULK AT MOST 1048576: true; the input reads as it did. -/
def sortedNumbersUptoRow : OpenClaim := { program := "yteffgknclbcpjaa", sum := "45fb207015842d491a32c7bddbc272a31705a2236c7852a5176d86edf1d248a9", func := "tributary/tributarylaw01.SortedNumbers", spec := "sortedNumbers", inPlace := ["slices.overlaps[tributary/sorted.Pair[string, int]]", "slices.overlaps[tributary/sorted.Pair[int64, []int]]"], unfollowed := true, recurses := true, apart := false, narrowed := true }
def SortedNumbersUptoSaid : Prop := sortedNumbersUptoRow.holds Try.pinned (OpenSpec.upto sortedNumbersSpec)

/-- 'tributarylaw01.SortedMerges', WHERE WHAT IT READS IS OF BULK AT MOST 1048576: true; the input reads as it did. -/
def sortedMergesUptoRow : OpenClaim := { program := "yteffgknclbcpjaa", sum := "45fb207015842d491a32c7bddbc272a31705a2236c7852a5176d86edf1d248a9", func := "tributary/tributarylaw01.SortedMerges", spec := "sortedMerges", inPlace := ["slices.overlaps[tributary/sorted.Pair[string, int]]"], unfollowed := true, recurses := true, apart := false, narrowed := true }
def SortedMergesUptoSaid : Prop := sortedMergesUptoRow.holds Try.pinned (OpenSpec.upto sortedMergesSpec)

/-- 'tributarylaw01.SortedLater', WHERE WHAT IT READS IS OF BULK AT MOST 1048576: true; the input reads as it did. -/
def sortedLaterUptoRow : OpenClaim := { program := "yteffgknclbcpjaa", sum := "45fb207015842d491a32c7bddbc272a31705a2236c7852a5176d86edf1d248a9", func := "tributary/tributarylaw01.SortedLater", spec := "sortedLater", inPlace := ["slices.overlaps[tributary/sorted.Pair[string, int]]"], unfollowed := true, recurses := true, apart := false, narrowed := true }
def SortedLaterUptoSaid : Prop := sortedLaterUptoRow.holds Try.pinned (OpenSpec.upto sortedLaterSpec)

/-- 'tributarylaw01.SortedPlays', WHERE WHAT IT READS IS OF BULK AT MOST 1048576: true; the input reads as it did. -/
def sortedPlaysUptoRow : OpenClaim := { program := "yteffgknclbcpjaa", sum := "45fb207015842d491a32c7bddbc272a31705a2236c7852a5176d86edf1d248a9", func := "tributary/tributarylaw01.SortedPlays", spec := "sortedPlays", inPlace := ["slices.overlaps[tributary/sorted.Pair[string, int]]"], unfollowed := true, recurses := true, apart := false, narrowed := true }
def SortedPlaysUptoSaid : Prop := sortedPlaysUptoRow.holds Try.pinned (OpenSpec.upto sortedPlaysSpec)

end Rows
end Go.Proofs.Yteffgknclbcpjaa
