/-
  No cell of these rows narrows 'for every input' (looked for: loops, veiled, ifaces, maps, wideKeys, modest, calm, conditions, laid).
  DERIVED. THE GIVEN ROWS OF THIS SEAT. 9 by the template 'for every input the law returns true; each argument reads behind the call as it read before'; 0 by the template 'total and deterministic' (their statements: YtklionofaknjcaaTotals.lean).
  GIVEN WITH THE SEED: the statements are not yours to turn. If you find one false, say at which input.
  Laid BY PROGRAM, IN A SANDBOX (cutbox-rows.mjs): the forced cells as the released guide's own fill.sh prints them over the translation 2fa8f6920273b954… (all of the seat's roots in one cut). By AI agents, Wed Nov 11 2026. No macro, syntax, notation, axiom, sorry.
-/
import Derived.Test.YtklionofaknjcaaChecked
import GoSem.Claim
import GoSem.ClaimJoined
import GoSem.ClaimMapViews
import Derived.JoinedTies
import Derived.KernelRfl
namespace Go.Proofs.Ytklionofaknjcaa
/- THE CELL 'sum', in the pinned program and in every row, IS THE sha256 OF THE DUMP (.gsa) THAT YtklionofaknjcaaProg.lean LOADS. Nothing in Lean hashes anything: it is a label: what it is worth is what the hold of that sum in a sandbox is worth. -/
noncomputable def Try.pinned : Pinned := { name := "ytklionofaknjcaa", sum := "2fa8f6920273b954565647b688494f4c96b4c11b335ca5a8faf3ed57263cf289", checked := Try.checked }
namespace Rows
def none {H : Type} : Left H := { results := [], args := [] }

/-- 'tributarylaw07.ContextOf': WHATEVER THE INPUT: true; the input reads as it did. -/
def contextOfSpec : ChangeSpec := { name := "contextOf", fn := fun _ => fun
  | [d] => { results := [.lit (.bool true)], args := [d] }
  | _ => none }
def contextOfRow : OpenClaim := { program := "ytklionofaknjcaa", sum := "2fa8f6920273b954565647b688494f4c96b4c11b335ca5a8faf3ed57263cf289", func := "tributary/tributarylaw07.ContextOf", spec := "contextOf", unfollowed := true, recurses := true, apart := false }
def ContextOfSaid : Prop := contextOfRow.holds Try.pinned (OpenSpec.ofChange contextOfSpec)

/-- ITS FALSE NEIGHBOUR: 'it returns false'. Refute it at one input. -/
def contextOfWrong : ChangeSpec := { name := "contextOf", fn := fun _ => fun
  | [d] => { results := [.lit (.bool false)], args := [d] }
  | _ => none }
def ContextOfWrongFalsely : Prop := contextOfRow.holds Try.pinned (OpenSpec.ofChange contextOfWrong)

/-- 'tributarylaw07.ContextRange': WHATEVER THE INPUT: true; the input reads as it did. -/
def contextRangeSpec : ChangeSpec := { name := "contextRange", fn := fun _ => fun
  | [d1, d2, d3] => { results := [.lit (.bool true)], args := [d1, d2, d3] }
  | _ => none }
def contextRangeRow : OpenClaim := { program := "ytklionofaknjcaa", sum := "2fa8f6920273b954565647b688494f4c96b4c11b335ca5a8faf3ed57263cf289", func := "tributary/tributarylaw07.ContextRange", spec := "contextRange", unfollowed := true, recurses := true, apart := false }
def ContextRangeSaid : Prop := contextRangeRow.holds Try.pinned (OpenSpec.ofChange contextRangeSpec)

/-- ITS FALSE NEIGHBOUR: 'it returns false'. Refute it at one input. -/
def contextRangeWrong : ChangeSpec := { name := "contextRange", fn := fun _ => fun
  | [d1, d2, d3] => { results := [.lit (.bool false)], args := [d1, d2, d3] }
  | _ => none }
def ContextRangeWrongFalsely : Prop := contextRangeRow.holds Try.pinned (OpenSpec.ofChange contextRangeWrong)

/-- 'tributarylaw07.ContextHas': WHATEVER THE INPUT: true; the input reads as it did. -/
def contextHasSpec : ChangeSpec := { name := "contextHas", fn := fun _ => fun
  | [d1, d2] => { results := [.lit (.bool true)], args := [d1, d2] }
  | _ => none }
def contextHasRow : OpenClaim := { program := "ytklionofaknjcaa", sum := "2fa8f6920273b954565647b688494f4c96b4c11b335ca5a8faf3ed57263cf289", func := "tributary/tributarylaw07.ContextHas", spec := "contextHas", unfollowed := true, recurses := true, apart := false }
def ContextHasSaid : Prop := contextHasRow.holds Try.pinned (OpenSpec.ofChange contextHasSpec)

/-- ITS FALSE NEIGHBOUR: 'it returns false'. Refute it at one input. -/
def contextHasWrong : ChangeSpec := { name := "contextHas", fn := fun _ => fun
  | [d1, d2] => { results := [.lit (.bool false)], args := [d1, d2] }
  | _ => none }
def ContextHasWrongFalsely : Prop := contextHasRow.holds Try.pinned (OpenSpec.ofChange contextHasWrong)

/-- 'tributarylaw07.ContextFull': WHATEVER THE INPUT: true; the input reads as it did. -/
def contextFullSpec : ChangeSpec := { name := "contextFull", fn := fun _ => fun
  | [d] => { results := [.lit (.bool true)], args := [d] }
  | _ => none }
def contextFullRow : OpenClaim := { program := "ytklionofaknjcaa", sum := "2fa8f6920273b954565647b688494f4c96b4c11b335ca5a8faf3ed57263cf289", func := "tributary/tributarylaw07.ContextFull", spec := "contextFull", unfollowed := true, recurses := true, apart := false }
def ContextFullSaid : Prop := contextFullRow.holds Try.pinned (OpenSpec.ofChange contextFullSpec)

/-- ITS FALSE NEIGHBOUR: 'it returns false'. Refute it at one input. -/
def contextFullWrong : ChangeSpec := { name := "contextFull", fn := fun _ => fun
  | [d] => { results := [.lit (.bool false)], args := [d] }
  | _ => none }
def ContextFullWrongFalsely : Prop := contextFullRow.holds Try.pinned (OpenSpec.ofChange contextFullWrong)

/-- 'tributarylaw07.ContextRight': WHATEVER THE INPUT: true; the input reads as it did. -/
def contextRightSpec : ChangeSpec := { name := "contextRight", fn := fun _ => fun
  | [d] => { results := [.lit (.bool true)], args := [d] }
  | _ => none }
def contextRightRow : OpenClaim := { program := "ytklionofaknjcaa", sum := "2fa8f6920273b954565647b688494f4c96b4c11b335ca5a8faf3ed57263cf289", func := "tributary/tributarylaw07.ContextRight", spec := "contextRight", unfollowed := true, recurses := true, apart := false }
def ContextRightSaid : Prop := contextRightRow.holds Try.pinned (OpenSpec.ofChange contextRightSpec)

/-- ITS FALSE NEIGHBOUR: 'it returns false'. Refute it at one input. -/
def contextRightWrong : ChangeSpec := { name := "contextRight", fn := fun _ => fun
  | [d] => { results := [.lit (.bool false)], args := [d] }
  | _ => none }
def ContextRightWrongFalsely : Prop := contextRightRow.holds Try.pinned (OpenSpec.ofChange contextRightWrong)

/-- 'tributarylaw07.ContextSets': WHATEVER THE INPUT: true; the input reads as it did. -/
def contextSetsSpec : ChangeSpec := { name := "contextSets", fn := fun _ => fun
  | [d1, d2] => { results := [.lit (.bool true)], args := [d1, d2] }
  | _ => none }
def contextSetsRow : OpenClaim := { program := "ytklionofaknjcaa", sum := "2fa8f6920273b954565647b688494f4c96b4c11b335ca5a8faf3ed57263cf289", func := "tributary/tributarylaw07.ContextSets", spec := "contextSets", unfollowed := true, recurses := true, apart := false }
def ContextSetsSaid : Prop := contextSetsRow.holds Try.pinned (OpenSpec.ofChange contextSetsSpec)

/-- ITS FALSE NEIGHBOUR: 'it returns false'. Refute it at one input. -/
def contextSetsWrong : ChangeSpec := { name := "contextSets", fn := fun _ => fun
  | [d1, d2] => { results := [.lit (.bool false)], args := [d1, d2] }
  | _ => none }
def ContextSetsWrongFalsely : Prop := contextSetsRow.holds Try.pinned (OpenSpec.ofChange contextSetsWrong)

/-- 'tributarylaw07.ContextAlgebra': WHATEVER THE INPUT: true; the input reads as it did. -/
def contextAlgebraSpec : ChangeSpec := { name := "contextAlgebra", fn := fun _ => fun
  | [d1, d2, d3] => { results := [.lit (.bool true)], args := [d1, d2, d3] }
  | _ => none }
def contextAlgebraRow : OpenClaim := { program := "ytklionofaknjcaa", sum := "2fa8f6920273b954565647b688494f4c96b4c11b335ca5a8faf3ed57263cf289", func := "tributary/tributarylaw07.ContextAlgebra", spec := "contextAlgebra", unfollowed := true, recurses := true, apart := false }
def ContextAlgebraSaid : Prop := contextAlgebraRow.holds Try.pinned (OpenSpec.ofChange contextAlgebraSpec)

/-- ITS FALSE NEIGHBOUR: 'it returns false'. Refute it at one input. -/
def contextAlgebraWrong : ChangeSpec := { name := "contextAlgebra", fn := fun _ => fun
  | [d1, d2, d3] => { results := [.lit (.bool false)], args := [d1, d2, d3] }
  | _ => none }
def ContextAlgebraWrongFalsely : Prop := contextAlgebraRow.holds Try.pinned (OpenSpec.ofChange contextAlgebraWrong)

/-- 'tributarylaw07.ContextMember': WHATEVER THE INPUT: true; the input reads as it did. -/
def contextMemberSpec : ChangeSpec := { name := "contextMember", fn := fun _ => fun
  | [d1, d2, d3] => { results := [.lit (.bool true)], args := [d1, d2, d3] }
  | _ => none }
def contextMemberRow : OpenClaim := { program := "ytklionofaknjcaa", sum := "2fa8f6920273b954565647b688494f4c96b4c11b335ca5a8faf3ed57263cf289", func := "tributary/tributarylaw07.ContextMember", spec := "contextMember", unfollowed := true, recurses := true, apart := false }
def ContextMemberSaid : Prop := contextMemberRow.holds Try.pinned (OpenSpec.ofChange contextMemberSpec)

/-- ITS FALSE NEIGHBOUR: 'it returns false'. Refute it at one input. -/
def contextMemberWrong : ChangeSpec := { name := "contextMember", fn := fun _ => fun
  | [d1, d2, d3] => { results := [.lit (.bool false)], args := [d1, d2, d3] }
  | _ => none }
def ContextMemberWrongFalsely : Prop := contextMemberRow.holds Try.pinned (OpenSpec.ofChange contextMemberWrong)

/-- 'tributarylaw07.ContextRaises': WHATEVER THE INPUT: true; the input reads as it did. -/
def contextRaisesSpec : ChangeSpec := { name := "contextRaises", fn := fun _ => fun
  | [d1, d2] => { results := [.lit (.bool true)], args := [d1, d2] }
  | _ => none }
def contextRaisesRow : OpenClaim := { program := "ytklionofaknjcaa", sum := "2fa8f6920273b954565647b688494f4c96b4c11b335ca5a8faf3ed57263cf289", func := "tributary/tributarylaw07.ContextRaises", spec := "contextRaises", unfollowed := true, recurses := true, apart := false }
def ContextRaisesSaid : Prop := contextRaisesRow.holds Try.pinned (OpenSpec.ofChange contextRaisesSpec)

/-- ITS FALSE NEIGHBOUR: 'it returns false'. Refute it at one input. -/
def contextRaisesWrong : ChangeSpec := { name := "contextRaises", fn := fun _ => fun
  | [d1, d2] => { results := [.lit (.bool false)], args := [d1, d2] }
  | _ => none }
def ContextRaisesWrongFalsely : Prop := contextRaisesRow.holds Try.pinned (OpenSpec.ofChange contextRaisesWrong)

/- THE SECOND FORM. 'bulk': how many values and letters a reading holds, each counted each time it is reached (what is shared counts as often as it is met; a slice's spare places count too). A statement '..UptoSaid' is the law's where the arguments, and the package variables that the reading takes, are together of bulk at most 1048576: NARROWER than '..Said'. Prove '..Said' where nothing that the law and all that it calls make is longer than what came in: it says more and counts as full. Else prove '..UptoSaid'. A law counts once. -/
mutual
def uptoBulk {H : Type} : DataW H → Nat
  | .lit (.string bytes) => bytes.length + 1
  | .lit _ => 1
  | .nil => 1
  | .ptr d => uptoBulk d + 1
  | .slice elems spare => uptoBulkAll elems + uptoBulkAll spare + 1
  | .agg parts => uptoBulkAll parts + 1
  | .iface _ d => uptoBulk d + 1
  | .map entries => uptoBulkEntries entries + 1
  | .held _ => 1
def uptoBulkAll {H : Type} : List (DataW H) → Nat
  | [] => 0
  | d :: r => uptoBulk d + uptoBulkAll r
def uptoBulkEntries {H : Type} : List (Lit × DataW H) → Nat
  | [] => 0
  | x :: r => uptoBulkEntry x + uptoBulkEntries r
def uptoBulkEntry {H : Type} : Lit × DataW H → Nat
  | (.string bytes, d) => bytes.length + uptoBulk d + 1
  | (_, d) => uptoBulk d + 1
 end
def uptoSmall : (H : Type) → List (DataW H) → Bool := fun _ ds => decide (uptoBulkAll ds ≤ 1048576)
def OpenSpec.upto (s : _root_.Go.ChangeSpec) : _root_.Go.OpenSpec := { _root_.Go.OpenSpec.ofChange s with cond := some uptoSmall }

/-- 'tributarylaw07.ContextOf', WHERE WHAT IT READS IS OF BULK AT MOST 1048576: true; the input reads as it did. -/
def contextOfUptoRow : OpenClaim := { program := "ytklionofaknjcaa", sum := "2fa8f6920273b954565647b688494f4c96b4c11b335ca5a8faf3ed57263cf289", func := "tributary/tributarylaw07.ContextOf", spec := "contextOf", unfollowed := true, recurses := true, apart := false, narrowed := true }
def ContextOfUptoSaid : Prop := contextOfUptoRow.holds Try.pinned (OpenSpec.upto contextOfSpec)

/-- 'tributarylaw07.ContextRange', WHERE WHAT IT READS IS OF BULK AT MOST 1048576: true; the input reads as it did. -/
def contextRangeUptoRow : OpenClaim := { program := "ytklionofaknjcaa", sum := "2fa8f6920273b954565647b688494f4c96b4c11b335ca5a8faf3ed57263cf289", func := "tributary/tributarylaw07.ContextRange", spec := "contextRange", unfollowed := true, recurses := true, apart := false, narrowed := true }
def ContextRangeUptoSaid : Prop := contextRangeUptoRow.holds Try.pinned (OpenSpec.upto contextRangeSpec)

/-- 'tributarylaw07.ContextHas', WHERE WHAT IT READS IS OF BULK AT MOST 1048576: true; the input reads as it did. -/
def contextHasUptoRow : OpenClaim := { program := "ytklionofaknjcaa", sum := "2fa8f6920273b954565647b688494f4c96b4c11b335ca5a8faf3ed57263cf289", func := "tributary/tributarylaw07.ContextHas", spec := "contextHas", unfollowed := true, recurses := true, apart := false, narrowed := true }
def ContextHasUptoSaid : Prop := contextHasUptoRow.holds Try.pinned (OpenSpec.upto contextHasSpec)

/-- 'tributarylaw07.ContextFull', WHERE WHAT IT READS IS OF BULK AT MOST 1048576: true; the input reads as it did. -/
def contextFullUptoRow : OpenClaim := { program := "ytklionofaknjcaa", sum := "2fa8f6920273b954565647b688494f4c96b4c11b335ca5a8faf3ed57263cf289", func := "tributary/tributarylaw07.ContextFull", spec := "contextFull", unfollowed := true, recurses := true, apart := false, narrowed := true }
def ContextFullUptoSaid : Prop := contextFullUptoRow.holds Try.pinned (OpenSpec.upto contextFullSpec)

/-- 'tributarylaw07.ContextRight', WHERE WHAT IT READS IS OF BULK AT MOST 1048576: true; the input reads as it did. -/
def contextRightUptoRow : OpenClaim := { program := "ytklionofaknjcaa", sum := "2fa8f6920273b954565647b688494f4c96b4c11b335ca5a8faf3ed57263cf289", func := "tributary/tributarylaw07.ContextRight", spec := "contextRight", unfollowed := true, recurses := true, apart := false, narrowed := true }
def ContextRightUptoSaid : Prop := contextRightUptoRow.holds Try.pinned (OpenSpec.upto contextRightSpec)

/-- 'tributarylaw07.ContextSets', WHERE WHAT IT READS IS OF BULK AT MOST 1048576: true; the input reads as it did. -/
def contextSetsUptoRow : OpenClaim := { program := "ytklionofaknjcaa", sum := "2fa8f6920273b954565647b688494f4c96b4c11b335ca5a8faf3ed57263cf289", func := "tributary/tributarylaw07.ContextSets", spec := "contextSets", unfollowed := true, recurses := true, apart := false, narrowed := true }
def ContextSetsUptoSaid : Prop := contextSetsUptoRow.holds Try.pinned (OpenSpec.upto contextSetsSpec)

/-- 'tributarylaw07.ContextAlgebra', WHERE WHAT IT READS IS OF BULK AT MOST 1048576: true; the input reads as it did. -/
def contextAlgebraUptoRow : OpenClaim := { program := "ytklionofaknjcaa", sum := "2fa8f6920273b954565647b688494f4c96b4c11b335ca5a8faf3ed57263cf289", func := "tributary/tributarylaw07.ContextAlgebra", spec := "contextAlgebra", unfollowed := true, recurses := true, apart := false, narrowed := true }
def ContextAlgebraUptoSaid : Prop := contextAlgebraUptoRow.holds Try.pinned (OpenSpec.upto contextAlgebraSpec)

/-- 'tributarylaw07.ContextMember', WHERE WHAT IT READS IS OF BULK AT MOST 1048576: true; the input reads as it did. -/
def contextMemberUptoRow : OpenClaim := { program := "ytklionofaknjcaa", sum := "2fa8f6920273b954565647b688494f4c96b4c11b335ca5a8faf3ed57263cf289", func := "tributary/tributarylaw07.ContextMember", spec := "contextMember", unfollowed := true, recurses := true, apart := false, narrowed := true }
def ContextMemberUptoSaid : Prop := contextMemberUptoRow.holds Try.pinned (OpenSpec.upto contextMemberSpec)

/-- 'tributarylaw07.ContextRaises', WHERE WHAT IT READS IS OF BULK AT MOST 1048576: true; the input reads as it did. -/
def contextRaisesUptoRow : OpenClaim := { program := "ytklionofaknjcaa", sum := "2fa8f6920273b954565647b688494f4c96b4c11b335ca5a8faf3ed57263cf289", func := "tributary/tributarylaw07.ContextRaises", spec := "contextRaises", unfollowed := true, recurses := true, apart := false, narrowed := true }
def ContextRaisesUptoSaid : Prop := contextRaisesUptoRow.holds Try.pinned (OpenSpec.upto contextRaisesSpec)

end Rows
end Go.Proofs.Ytklionofaknjcaa
