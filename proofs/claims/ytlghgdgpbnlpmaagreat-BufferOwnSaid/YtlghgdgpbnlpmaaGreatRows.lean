/-
  NARROWER THAN 'FOR EVERY INPUT', by the rows' own cells (each row's printed sentence says how): GatePlays: loops · GateOwn: loops · GateDrains: loops · GateOrder: loops · BufferSends: loops · BufferCollects: loops · BufferPlays: loops · BufferOwn: loops · BufferMeets: loops.
  DERIVED. THE GIVEN ROWS OF THIS SEAT. 9 by the template 'for every input the law returns true; each argument reads behind the call as it read before'; 0 by the template 'total and deterministic' (their statements: YtlghgdgpbnlpmaaGreatTotals.lean).
  GIVEN WITH THE SEED: the statements are not yours to turn. If you find one false, say at which input.
  Laid BY PROGRAM, IN A SANDBOX (cutbox-rows.mjs): the forced cells as the released guide's own fill.sh prints them over the translation 4911301487fd9f89… (all of the seat's roots in one cut). By AI agents, Wed Nov 11 2026. No macro, syntax, notation, axiom, sorry.
-/
import Derived.Test.YtlghgdgpbnlpmaaGreatChecked
import GoSem.Claim
import GoSem.ClaimJoined
import GoSem.ClaimMapViews
import Derived.JoinedTies
import Derived.KernelRfl
namespace Go.Proofs.YtlghgdgpbnlpmaaGreat
/- THE CELL 'sum', in the pinned program and in every row, IS THE sha256 OF THE DUMP (.gsa) THAT YtlghgdgpbnlpmaaGreatProg.lean LOADS. Nothing in Lean hashes anything: it is a label: what it is worth is what the hold of that sum in a sandbox is worth. -/
noncomputable def Tryz.pinned : Pinned := { name := "ytlghgdgpbnlpmaagreat", sum := "4911301487fd9f891bac839180842b17bea04af908d67b5fc0591f58e33d7331", checked := Tryz.checked }
namespace Rows
def none {H : Type} : Left H := { results := [], args := [] }

/-- 'tributarylaw23.GatePlays': WHATEVER THE INPUT: true; the input reads as it did. -/
def gatePlaysSpec : ChangeSpec := { name := "gatePlays", fn := fun _ => fun
  | [d] => { results := [.lit (.bool true)], args := [d] }
  | _ => none }
def gatePlaysRow : OpenClaim := { program := "ytlghgdgpbnlpmaagreat", sum := "4911301487fd9f891bac839180842b17bea04af908d67b5fc0591f58e33d7331", func := "tributary/tributarylaw23.GatePlays", spec := "gatePlays", inPlace := ["slices.overlaps[tributary/sorted.Pair[int64, tributary/bundle.Bundle]]"], unfollowed := true, recurses := true, loops := true, apart := false }
def GatePlaysSaid : Prop := gatePlaysRow.holds Tryz.pinned (OpenSpec.ofChange gatePlaysSpec)

/-- ITS FALSE NEIGHBOUR: 'it returns false'. Refute it at one input. -/
def gatePlaysWrong : ChangeSpec := { name := "gatePlays", fn := fun _ => fun
  | [d] => { results := [.lit (.bool false)], args := [d] }
  | _ => none }
def GatePlaysWrongFalsely : Prop := gatePlaysRow.holds Tryz.pinned (OpenSpec.ofChange gatePlaysWrong)

/-- 'tributarylaw23.GateOwn': WHATEVER THE INPUT: true; the input reads as it did. -/
def gateOwnSpec : ChangeSpec := { name := "gateOwn", fn := fun _ => fun
  | [d] => { results := [.lit (.bool true)], args := [d] }
  | _ => none }
def gateOwnRow : OpenClaim := { program := "ytlghgdgpbnlpmaagreat", sum := "4911301487fd9f891bac839180842b17bea04af908d67b5fc0591f58e33d7331", func := "tributary/tributarylaw23.GateOwn", spec := "gateOwn", inPlace := ["slices.overlaps[tributary/sorted.Pair[int64, tributary/bundle.Bundle]]"], unfollowed := true, recurses := true, loops := true, apart := false }
def GateOwnSaid : Prop := gateOwnRow.holds Tryz.pinned (OpenSpec.ofChange gateOwnSpec)

/-- ITS FALSE NEIGHBOUR: 'it returns false'. Refute it at one input. -/
def gateOwnWrong : ChangeSpec := { name := "gateOwn", fn := fun _ => fun
  | [d] => { results := [.lit (.bool false)], args := [d] }
  | _ => none }
def GateOwnWrongFalsely : Prop := gateOwnRow.holds Tryz.pinned (OpenSpec.ofChange gateOwnWrong)

/-- 'tributarylaw23.GateDrains': WHATEVER THE INPUT: true; the input reads as it did. -/
def gateDrainsSpec : ChangeSpec := { name := "gateDrains", fn := fun _ => fun
  | [d1, d2] => { results := [.lit (.bool true)], args := [d1, d2] }
  | _ => none }
def gateDrainsRow : OpenClaim := { program := "ytlghgdgpbnlpmaagreat", sum := "4911301487fd9f891bac839180842b17bea04af908d67b5fc0591f58e33d7331", func := "tributary/tributarylaw23.GateDrains", spec := "gateDrains", inPlace := ["slices.overlaps[tributary/sorted.Pair[int64, tributary/bundle.Bundle]]"], unfollowed := true, recurses := true, loops := true, apart := false }
def GateDrainsSaid : Prop := gateDrainsRow.holds Tryz.pinned (OpenSpec.ofChange gateDrainsSpec)

/-- ITS FALSE NEIGHBOUR: 'it returns false'. Refute it at one input. -/
def gateDrainsWrong : ChangeSpec := { name := "gateDrains", fn := fun _ => fun
  | [d1, d2] => { results := [.lit (.bool false)], args := [d1, d2] }
  | _ => none }
def GateDrainsWrongFalsely : Prop := gateDrainsRow.holds Tryz.pinned (OpenSpec.ofChange gateDrainsWrong)

/-- 'tributarylaw23.GateOrder': WHATEVER THE INPUT: true; the input reads as it did. -/
def gateOrderSpec : ChangeSpec := { name := "gateOrder", fn := fun _ => fun
  | [d] => { results := [.lit (.bool true)], args := [d] }
  | _ => none }
def gateOrderRow : OpenClaim := { program := "ytlghgdgpbnlpmaagreat", sum := "4911301487fd9f891bac839180842b17bea04af908d67b5fc0591f58e33d7331", func := "tributary/tributarylaw23.GateOrder", spec := "gateOrder", inPlace := ["slices.overlaps[tributary/sorted.Pair[int64, tributary/bundle.Bundle]]"], unfollowed := true, recurses := true, loops := true, apart := false }
def GateOrderSaid : Prop := gateOrderRow.holds Tryz.pinned (OpenSpec.ofChange gateOrderSpec)

/-- ITS FALSE NEIGHBOUR: 'it returns false'. Refute it at one input. -/
def gateOrderWrong : ChangeSpec := { name := "gateOrder", fn := fun _ => fun
  | [d] => { results := [.lit (.bool false)], args := [d] }
  | _ => none }
def GateOrderWrongFalsely : Prop := gateOrderRow.holds Tryz.pinned (OpenSpec.ofChange gateOrderWrong)

/-- 'tributarylaw24.BufferSends': WHATEVER THE INPUT: true; the input reads as it did. -/
def bufferSendsSpec : ChangeSpec := { name := "bufferSends", fn := fun _ => fun
  | [d1, d2, d3] => { results := [.lit (.bool true)], args := [d1, d2, d3] }
  | _ => none }
def bufferSendsRow : OpenClaim := { program := "ytlghgdgpbnlpmaagreat", sum := "4911301487fd9f891bac839180842b17bea04af908d67b5fc0591f58e33d7331", func := "tributary/tributarylaw24.BufferSends", spec := "bufferSends", inPlace := ["slices.overlaps[tributary/sorted.Pair[int64, tributary/bundle.Bundle]]"], unfollowed := true, recurses := true, loops := true, apart := false }
def BufferSendsSaid : Prop := bufferSendsRow.holds Tryz.pinned (OpenSpec.ofChange bufferSendsSpec)

/-- ITS FALSE NEIGHBOUR: 'it returns false'. Refute it at one input. -/
def bufferSendsWrong : ChangeSpec := { name := "bufferSends", fn := fun _ => fun
  | [d1, d2, d3] => { results := [.lit (.bool false)], args := [d1, d2, d3] }
  | _ => none }
def BufferSendsWrongFalsely : Prop := bufferSendsRow.holds Tryz.pinned (OpenSpec.ofChange bufferSendsWrong)

/-- 'tributarylaw24.BufferCollects': WHATEVER THE INPUT: true; the input reads as it did. -/
def bufferCollectsSpec : ChangeSpec := { name := "bufferCollects", fn := fun _ => fun
  | [d1, d2, d3, d4] => { results := [.lit (.bool true)], args := [d1, d2, d3, d4] }
  | _ => none }
def bufferCollectsRow : OpenClaim := { program := "ytlghgdgpbnlpmaagreat", sum := "4911301487fd9f891bac839180842b17bea04af908d67b5fc0591f58e33d7331", func := "tributary/tributarylaw24.BufferCollects", spec := "bufferCollects", inPlace := ["slices.overlaps[tributary/sorted.Pair[int64, tributary/bundle.Bundle]]"], unfollowed := true, recurses := true, loops := true, apart := false }
def BufferCollectsSaid : Prop := bufferCollectsRow.holds Tryz.pinned (OpenSpec.ofChange bufferCollectsSpec)

/-- ITS FALSE NEIGHBOUR: 'it returns false'. Refute it at one input. -/
def bufferCollectsWrong : ChangeSpec := { name := "bufferCollects", fn := fun _ => fun
  | [d1, d2, d3, d4] => { results := [.lit (.bool false)], args := [d1, d2, d3, d4] }
  | _ => none }
def BufferCollectsWrongFalsely : Prop := bufferCollectsRow.holds Tryz.pinned (OpenSpec.ofChange bufferCollectsWrong)

/-- 'tributarylaw24.BufferPlays': WHATEVER THE INPUT: true; the input reads as it did. -/
def bufferPlaysSpec : ChangeSpec := { name := "bufferPlays", fn := fun _ => fun
  | [d1, d2, d3] => { results := [.lit (.bool true)], args := [d1, d2, d3] }
  | _ => none }
def bufferPlaysRow : OpenClaim := { program := "ytlghgdgpbnlpmaagreat", sum := "4911301487fd9f891bac839180842b17bea04af908d67b5fc0591f58e33d7331", func := "tributary/tributarylaw24.BufferPlays", spec := "bufferPlays", inPlace := ["slices.overlaps[tributary/sorted.Pair[int64, tributary/bundle.Bundle]]"], unfollowed := true, recurses := true, loops := true, apart := false }
def BufferPlaysSaid : Prop := bufferPlaysRow.holds Tryz.pinned (OpenSpec.ofChange bufferPlaysSpec)

/-- ITS FALSE NEIGHBOUR: 'it returns false'. Refute it at one input. -/
def bufferPlaysWrong : ChangeSpec := { name := "bufferPlays", fn := fun _ => fun
  | [d1, d2, d3] => { results := [.lit (.bool false)], args := [d1, d2, d3] }
  | _ => none }
def BufferPlaysWrongFalsely : Prop := bufferPlaysRow.holds Tryz.pinned (OpenSpec.ofChange bufferPlaysWrong)

/-- 'tributarylaw24.BufferOwn': WHATEVER THE INPUT: true; the input reads as it did. -/
def bufferOwnSpec : ChangeSpec := { name := "bufferOwn", fn := fun _ => fun
  | [d] => { results := [.lit (.bool true)], args := [d] }
  | _ => none }
def bufferOwnRow : OpenClaim := { program := "ytlghgdgpbnlpmaagreat", sum := "4911301487fd9f891bac839180842b17bea04af908d67b5fc0591f58e33d7331", func := "tributary/tributarylaw24.BufferOwn", spec := "bufferOwn", inPlace := ["slices.overlaps[tributary/sorted.Pair[int64, tributary/bundle.Bundle]]"], unfollowed := true, recurses := true, loops := true, apart := false }
def BufferOwnSaid : Prop := bufferOwnRow.holds Tryz.pinned (OpenSpec.ofChange bufferOwnSpec)

/-- ITS FALSE NEIGHBOUR: 'it returns false'. Refute it at one input. -/
def bufferOwnWrong : ChangeSpec := { name := "bufferOwn", fn := fun _ => fun
  | [d] => { results := [.lit (.bool false)], args := [d] }
  | _ => none }
def BufferOwnWrongFalsely : Prop := bufferOwnRow.holds Tryz.pinned (OpenSpec.ofChange bufferOwnWrong)

/-- 'tributarylaw24.BufferMeets': WHATEVER THE INPUT: true; the input reads as it did. -/
def bufferMeetsSpec : ChangeSpec := { name := "bufferMeets", fn := fun _ => fun
  | [d1, d2, d3, d4] => { results := [.lit (.bool true)], args := [d1, d2, d3, d4] }
  | _ => none }
def bufferMeetsRow : OpenClaim := { program := "ytlghgdgpbnlpmaagreat", sum := "4911301487fd9f891bac839180842b17bea04af908d67b5fc0591f58e33d7331", func := "tributary/tributarylaw24.BufferMeets", spec := "bufferMeets", inPlace := ["slices.overlaps[tributary/sorted.Pair[int64, tributary/bundle.Bundle]]"], unfollowed := true, recurses := true, loops := true, apart := false }
def BufferMeetsSaid : Prop := bufferMeetsRow.holds Tryz.pinned (OpenSpec.ofChange bufferMeetsSpec)

/-- ITS FALSE NEIGHBOUR: 'it returns false'. Refute it at one input. -/
def bufferMeetsWrong : ChangeSpec := { name := "bufferMeets", fn := fun _ => fun
  | [d1, d2, d3, d4] => { results := [.lit (.bool false)], args := [d1, d2, d3, d4] }
  | _ => none }
def BufferMeetsWrongFalsely : Prop := bufferMeetsRow.holds Tryz.pinned (OpenSpec.ofChange bufferMeetsWrong)

/- THE SECOND FORM. 'bulk': how many values and letters a reading holds, each counted each time it is reached (what is shared counts as often as it is met; a slice's spare places count too). A statement '..UptoSaid' is the law's where the arguments, and the package variables that the reading takes, are together of bulk at most 1048576: NARROWER than '..Said'. Prove '..Said' where nothing that the law and all that it calls make is longer than what came in: it says more and counts as full. Else prove '..UptoSaid'. A law counts once. -/
mutual
def uptoBulk {H : Type} : DataW H → Nat
  | .lit (.string bytes) => bytes.length + 1
  | .lit _ => 1
  | .nil => 1
  | .ptr d => uptoBulk d + 1
  | .slice elems spare => uptoBulkAll elems + uptoBulkAll spare + 1
  | .agg parts => uptoBulkAll parts + 1
  | .iface _ d => uptoBulk d + 1
  | .map entries => uptoBulkEntries entries + 1
  | .held _ => 1
def uptoBulkAll {H : Type} : List (DataW H) → Nat
  | [] => 0
  | d :: r => uptoBulk d + uptoBulkAll r
def uptoBulkEntries {H : Type} : List (Lit × DataW H) → Nat
  | [] => 0
  | x :: r => uptoBulkEntry x + uptoBulkEntries r
def uptoBulkEntry {H : Type} : Lit × DataW H → Nat
  | (.string bytes, d) => bytes.length + uptoBulk d + 1
  | (_, d) => uptoBulk d + 1
 end
def uptoSmall : (H : Type) → List (DataW H) → Bool := fun _ ds => decide (uptoBulkAll ds ≤ 1048576)
def OpenSpec.upto (s : _root_.Go.ChangeSpec) : _root_.Go.OpenSpec := { _root_.Go.OpenSpec.ofChange s with cond := some uptoSmall }

/-- 'tributarylaw23.GatePlays', WHERE WHAT IT READS IS OF BULK AT MOST 1048576: true; the input reads as it did. -/
def gatePlaysUptoRow : OpenClaim := { program := "ytlghgdgpbnlpmaagreat", sum := "4911301487fd9f891bac839180842b17bea04af908d67b5fc0591f58e33d7331", func := "tributary/tributarylaw23.GatePlays", spec := "gatePlays", inPlace := ["slices.overlaps[tributary/sorted.Pair[int64, tributary/bundle.Bundle]]"], unfollowed := true, recurses := true, loops := true, apart := false, narrowed := true }
def GatePlaysUptoSaid : Prop := gatePlaysUptoRow.holds Tryz.pinned (OpenSpec.upto gatePlaysSpec)

/-- 'tributarylaw23.GateOwn', WHERE WHAT IT READS IS OF BULK AT MOST 1048576: true; the input reads as it did. -/
def gateOwnUptoRow : OpenClaim := { program := "ytlghgdgpbnlpmaagreat", sum := "4911301487fd9f891bac839180842b17bea04af908d67b5fc0591f58e33d7331", func := "tributary/tributarylaw23.GateOwn", spec := "gateOwn", inPlace := ["slices.overlaps[tributary/sorted.Pair[int64, tributary/bundle.Bundle]]"], unfollowed := true, recurses := true, loops := true, apart := false, narrowed := true }
def GateOwnUptoSaid : Prop := gateOwnUptoRow.holds Tryz.pinned (OpenSpec.upto gateOwnSpec)

/-- 'tributarylaw23.GateDrains', WHERE WHAT IT READS IS OF BULK AT MOST 1048576: true; the input reads as it did. -/
def gateDrainsUptoRow : OpenClaim := { program := "ytlghgdgpbnlpmaagreat", sum := "4911301487fd9f891bac839180842b17bea04af908d67b5fc0591f58e33d7331", func := "tributary/tributarylaw23.GateDrains", spec := "gateDrains", inPlace := ["slices.overlaps[tributary/sorted.Pair[int64, tributary/bundle.Bundle]]"], unfollowed := true, recurses := true, loops := true, apart := false, narrowed := true }
def GateDrainsUptoSaid : Prop := gateDrainsUptoRow.holds Tryz.pinned (OpenSpec.upto gateDrainsSpec)

/-- 'tributarylaw23.GateOrder', WHERE WHAT IT READS IS OF BULK AT MOST 1048576: true; the input reads as it did. -/
def gateOrderUptoRow : OpenClaim := { program := "ytlghgdgpbnlpmaagreat", sum := "4911301487fd9f891bac839180842b17bea04af908d67b5fc0591f58e33d7331", func := "tributary/tributarylaw23.GateOrder", spec := "gateOrder", inPlace := ["slices.overlaps[tributary/sorted.Pair[int64, tributary/bundle.Bundle]]"], unfollowed := true, recurses := true, loops := true, apart := false, narrowed := true }
def GateOrderUptoSaid : Prop := gateOrderUptoRow.holds Tryz.pinned (OpenSpec.upto gateOrderSpec)

/-- 'tributarylaw24.BufferSends', WHERE WHAT IT READS IS OF BULK AT MOST 1048576: true; the input reads as it did. -/
def bufferSendsUptoRow : OpenClaim := { program := "ytlghgdgpbnlpmaagreat", sum := "4911301487fd9f891bac839180842b17bea04af908d67b5fc0591f58e33d7331", func := "tributary/tributarylaw24.BufferSends", spec := "bufferSends", inPlace := ["slices.overlaps[tributary/sorted.Pair[int64, tributary/bundle.Bundle]]"], unfollowed := true, recurses := true, loops := true, apart := false, narrowed := true }
def BufferSendsUptoSaid : Prop := bufferSendsUptoRow.holds Tryz.pinned (OpenSpec.upto bufferSendsSpec)

/-- 'tributarylaw24.BufferCollects', WHERE WHAT IT READS IS OF BULK AT MOST 1048576: true; the input reads as it did. -/
def bufferCollectsUptoRow : OpenClaim := { program := "ytlghgdgpbnlpmaagreat", sum := "4911301487fd9f891bac839180842b17bea04af908d67b5fc0591f58e33d7331", func := "tributary/tributarylaw24.BufferCollects", spec := "bufferCollects", inPlace := ["slices.overlaps[tributary/sorted.Pair[int64, tributary/bundle.Bundle]]"], unfollowed := true, recurses := true, loops := true, apart := false, narrowed := true }
def BufferCollectsUptoSaid : Prop := bufferCollectsUptoRow.holds Tryz.pinned (OpenSpec.upto bufferCollectsSpec)

/-- 'tributarylaw24.BufferPlays', WHERE WHAT IT READS IS OF BULK AT MOST 1048576: true; the input reads as it did. -/
def bufferPlaysUptoRow : OpenClaim := { program := "ytlghgdgpbnlpmaagreat", sum := "4911301487fd9f891bac839180842b17bea04af908d67b5fc0591f58e33d7331", func := "tributary/tributarylaw24.BufferPlays", spec := "bufferPlays", inPlace := ["slices.overlaps[tributary/sorted.Pair[int64, tributary/bundle.Bundle]]"], unfollowed := true, recurses := true, loops := true, apart := false, narrowed := true }
def BufferPlaysUptoSaid : Prop := bufferPlaysUptoRow.holds Tryz.pinned (OpenSpec.upto bufferPlaysSpec)

/-- 'tributarylaw24.BufferOwn', WHERE WHAT IT READS IS OF BULK AT MOST 1048576: true; the input reads as it did. -/
def bufferOwnUptoRow : OpenClaim := { program := "ytlghgdgpbnlpmaagreat", sum := "4911301487fd9f891bac839180842b17bea04af908d67b5fc0591f58e33d7331", func := "tributary/tributarylaw24.BufferOwn", spec := "bufferOwn", inPlace := ["slices.overlaps[tributary/sorted.Pair[int64, tributary/bundle.Bundle]]"], unfollowed := true, recurses := true, loops := true, apart := false, narrowed := true }
def BufferOwnUptoSaid : Prop := bufferOwnUptoRow.holds Tryz.pinned (OpenSpec.upto bufferOwnSpec)

/-- 'tributarylaw24.BufferMeets', WHERE WHAT IT READS IS OF BULK AT MOST 1048576: true; the input reads as it did. -/
def bufferMeetsUptoRow : OpenClaim := { program := "ytlghgdgpbnlpmaagreat", sum := "4911301487fd9f891bac839180842b17bea04af908d67b5fc0591f58e33d7331", func := "tributary/tributarylaw24.BufferMeets", spec := "bufferMeets", inPlace := ["slices.overlaps[tributary/sorted.Pair[int64, tributary/bundle.Bundle]]"], unfollowed := true, recurses := true, loops := true, apart := false, narrowed := true }
def BufferMeetsUptoSaid : Prop := bufferMeetsUptoRow.holds Tryz.pinned (OpenSpec.upto bufferMeetsSpec)

end Rows
end Go.Proofs.YtlghgdgpbnlpmaaGreat
