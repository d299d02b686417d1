/-
  No cell of these rows narrows 'for every input' (looked for: loops, veiled, ifaces, maps, wideKeys, modest, calm, conditions, laid).
  DERIVED. THE GIVEN ROWS OF THIS SEAT. 2 by the template 'for every input the law returns true; each argument reads behind the call as it read before'; 0 by the template 'total and deterministic' (their statements: YtlghgdgpbnlpmaaTotals.lean).
  GIVEN WITH THE SEED: the statements are not yours to turn. If you find one false, say at which input.
  Laid BY PROGRAM, IN A SANDBOX (cutbox-rows.mjs): the forced cells as the released guide's own fill.sh prints them over the translation 6495c6d60479f0a0… (all of the seat's roots in one cut). By AI agents, Wed Nov 11 2026. No macro, syntax, notation, axiom, sorry.
-/
import Derived.Test.YtlghgdgpbnlpmaaChecked
import GoSem.Claim
import GoSem.ClaimJoined
import GoSem.ClaimMapViews
import Derived.JoinedTies
import Derived.KernelRfl
namespace Go.Proofs.Ytlghgdgpbnlpmaa
/- THE CELL 'sum', in the pinned program and in every row, IS THE sha256 OF THE DUMP (.gsa) THAT YtlghgdgpbnlpmaaProg.lean LOADS. Nothing in Lean hashes anything: it is a label: what it is worth is what the hold of that sum in a sandbox is worth. -/
noncomputable def Try.pinned : Pinned := { name := "ytlghgdgpbnlpmaa", sum := "6495c6d60479f0a0068ca7a9b8c4f15d3b8361b4b4635704e3f4a15ef3fdcdf3", checked := Try.checked }
namespace Rows
def none {H : Type} : Left H := { results := [], args := [] }

/-- 'tributarylaw23.GateFull': WHATEVER THE INPUT: true; the input reads as it did. -/
def gateFullSpec : ChangeSpec := { name := "gateFull", fn := fun _ => fun
  | [d1, d2] => { results := [.lit (.bool true)], args := [d1, d2] }
  | _ => none }
def gateFullRow : OpenClaim := { program := "ytlghgdgpbnlpmaa", sum := "6495c6d60479f0a0068ca7a9b8c4f15d3b8361b4b4635704e3f4a15ef3fdcdf3", func := "tributary/tributarylaw23.GateFull", spec := "gateFull", inPlace := ["slices.overlaps[tributary/sorted.Pair[int64, tributary/bundle.Bundle]]"], unfollowed := true, recurses := true, apart := false }
def GateFullSaid : Prop := gateFullRow.holds Try.pinned (OpenSpec.ofChange gateFullSpec)

/-- ITS FALSE NEIGHBOUR: 'it returns false'. Refute it at one input. -/
def gateFullWrong : ChangeSpec := { name := "gateFull", fn := fun _ => fun
  | [d1, d2] => { results := [.lit (.bool false)], args := [d1, d2] }
  | _ => none }
def GateFullWrongFalsely : Prop := gateFullRow.holds Try.pinned (OpenSpec.ofChange gateFullWrong)

/-- 'tributarylaw24.BufferFull': WHATEVER THE INPUT: true; the input reads as it did. -/
def bufferFullSpec : ChangeSpec := { name := "bufferFull", fn := fun _ => fun
  | [d1, d2] => { results := [.lit (.bool true)], args := [d1, d2] }
  | _ => none }
def bufferFullRow : OpenClaim := { program := "ytlghgdgpbnlpmaa", sum := "6495c6d60479f0a0068ca7a9b8c4f15d3b8361b4b4635704e3f4a15ef3fdcdf3", func := "tributary/tributarylaw24.BufferFull", spec := "bufferFull", inPlace := ["slices.overlaps[tributary/sorted.Pair[int64, tributary/bundle.Bundle]]"], unfollowed := true, recurses := true, apart := false }
def BufferFullSaid : Prop := bufferFullRow.holds Try.pinned (OpenSpec.ofChange bufferFullSpec)

/-- ITS FALSE NEIGHBOUR: 'it returns false'. Refute it at one input. -/
def bufferFullWrong : ChangeSpec := { name := "bufferFull", fn := fun _ => fun
  | [d1, d2] => { results := [.lit (.bool false)], args := [d1, d2] }
  | _ => none }
def BufferFullWrongFalsely : Prop := bufferFullRow.holds Try.pinned (OpenSpec.ofChange bufferFullWrong)

/- THE SECOND FORM. 'bulk': how many values and letters a reading holds, each counted each time it is reached (what is shared counts as often as it is met; a slice's spare places count too). A statement '..UptoSaid' is the law's where the arguments, and the package variables that the reading takes, are together of bulk at most 1048576: NARROWER than '..Said'. Prove '..Said' where nothing that the law and all that it calls make is longer than what came in: it says more and counts as full. Else prove '..UptoSaid'. A law counts once. -/
mutual
def uptoBulk {H : Type} : DataW H → Nat
  | .lit (.string bytes) => bytes.length + 1
  | .lit _ => 1
  | .nil => 1
  | .ptr d => uptoBulk d + 1
  | .slice elems spare => uptoBulkAll elems + uptoBulkAll spare + 1
  | .agg parts => uptoBulkAll parts + 1
  | .iface _ d => uptoBulk d + 1
  | .map entries => uptoBulkEntries entries + 1
  | .held _ => 1
def uptoBulkAll {H : Type} : List (DataW H) → Nat
  | [] => 0
  | d :: r => uptoBulk d + uptoBulkAll r
def uptoBulkEntries {H : Type} : List (Lit × DataW H) → Nat
  | [] => 0
  | x :: r => uptoBulkEntry x + uptoBulkEntries r
def uptoBulkEntry {H : Type} : Lit × DataW H → Nat
  | (.string bytes, d) => bytes.length + uptoBulk d + 1
  | (_, d) => uptoBulk d + 1
 end
def uptoSmall : (H : Type) → List (DataW H) → Bool := fun _ ds => decide (uptoBulkAll ds ≤ 1048576)
def OpenSpec.upto (s : _root_.Go.ChangeSpec) : _root_.Go.OpenSpec := { _root_.Go.OpenSpec.ofChange s with cond := some uptoSmall }

/-- 'tributarylaw23.GateFull', WHERE WHAT IT READS IS OF BULK AT MOST 1048576: true; the input reads as it did. -/
def gateFullUptoRow : OpenClaim := { program := "ytlghgdgpbnlpmaa", sum := "6495c6d60479f0a0068ca7a9b8c4f15d3b8361b4b4635704e3f4a15ef3fdcdf3", func := "tributary/tributarylaw23.GateFull", spec := "gateFull", inPlace := ["slices.overlaps[tributary/sorted.Pair[int64, tributary/bundle.Bundle]]"], unfollowed := true, recurses := true, apart := false, narrowed := true }
def GateFullUptoSaid : Prop := gateFullUptoRow.holds Try.pinned (OpenSpec.upto gateFullSpec)

/-- 'tributarylaw24.BufferFull', WHERE WHAT IT READS IS OF BULK AT MOST 1048576: true; the input reads as it did. -/
def bufferFullUptoRow : OpenClaim := { program := "ytlghgdgpbnlpmaa", sum := "6495c6d60479f0a0068ca7a9b8c4f15d3b8361b4b4635704e3f4a15ef3fdcdf3", func := "tributary/tributarylaw24.BufferFull", spec := "bufferFull", inPlace := ["slices.overlaps[tributary/sorted.Pair[int64, tributary/bundle.Bundle]]"], unfollowed := true, recurses := true, apart := false, narrowed := true }
def BufferFullUptoSaid : Prop := bufferFullUptoRow.holds Try.pinned (OpenSpec.upto bufferFullSpec)

end Rows
end Go.Proofs.Ytlghgdgpbnlpmaa
