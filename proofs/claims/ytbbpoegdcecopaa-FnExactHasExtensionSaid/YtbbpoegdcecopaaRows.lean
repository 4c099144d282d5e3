/-
  No cell of these rows narrows 'for every input' (looked for: loops, veiled, ifaces, maps, wideKeys, modest, calm, conditions, laid).
  DERIVED. THE GIVEN ROWS OF THIS SEAT. 9 by the template 'for every input the law returns true; each argument reads behind the call as it read before'; 0 by the template 'total and deterministic' (their statements: YtbbpoegdcecopaaTotals.lean).
  GIVEN WITH THE SEED: the statements are not yours to turn. If you find one false, say at which input.
  Laid BY PROGRAM, IN A SANDBOX (cutbox-rows.mjs): the forced cells as the released guide's own fill.sh prints them over the translation 576e68cf1de914b5… (all of the seat's roots in one cut). By AI agents, Wed Nov 11 2026. No macro, syntax, notation, axiom, sorry.
-/
import Derived.Test.YtbbpoegdcecopaaChecked
import GoSem.Claim
import GoSem.ClaimJoined
import GoSem.ClaimMapViews
import Derived.JoinedTies
import Derived.KernelRfl
namespace Go.Proofs.Ytbbpoegdcecopaa
/- THE CELL 'sum', in the pinned program and in every row, IS THE sha256 OF THE DUMP (.gsa) THAT YtbbpoegdcecopaaProg.lean LOADS. Nothing in Lean hashes anything: it is a label: what it is worth is what the hold of that sum in a sandbox is worth. -/
noncomputable def Try.pinned : Pinned := { name := "ytbbpoegdcecopaa", sum := "576e68cf1de914b585bf4b62d84ac748af461ffb99b11b29a8c426f2871ff085", checked := Try.checked }
namespace Rows
def none {H : Type} : Left H := { results := [], args := [] }

/-- 'laws.FnExactIsValidDependency': WHATEVER THE INPUT: true; the input reads as it did. -/
def fnExactIsValidDependencySpec : ChangeSpec := { name := "fnExactIsValidDependency", fn := fun _ => fun
  | [d1, d2] => { results := [.lit (.bool true)], args := [d1, d2] }
  | _ => none }
def fnExactIsValidDependencyRow : OpenClaim := { program := "ytbbpoegdcecopaa", sum := "576e68cf1de914b585bf4b62d84ac748af461ffb99b11b29a8c426f2871ff085", func := "loop.example/g01919/laws.FnExactIsValidDependency", spec := "fnExactIsValidDependency", unfollowed := true, recurses := true, apart := false }
def FnExactIsValidDependencySaid : Prop := fnExactIsValidDependencyRow.holds Try.pinned (OpenSpec.ofChange fnExactIsValidDependencySpec)

/-- ITS FALSE NEIGHBOUR: 'it returns false'. Refute it at one input. -/
def fnExactIsValidDependencyWrong : ChangeSpec := { name := "fnExactIsValidDependency", fn := fun _ => fun
  | [d1, d2] => { results := [.lit (.bool false)], args := [d1, d2] }
  | _ => none }
def FnExactIsValidDependencyWrongFalsely : Prop := fnExactIsValidDependencyRow.holds Try.pinned (OpenSpec.ofChange fnExactIsValidDependencyWrong)

/-- 'laws.FnExactAreValidDependencies': WHATEVER THE INPUT: true; the input reads as it did. -/
def fnExactAreValidDependenciesSpec : ChangeSpec := { name := "fnExactAreValidDependencies", fn := fun _ => fun
  | [d1, d2] => { results := [.lit (.bool true)], args := [d1, d2] }
  | _ => none }
def fnExactAreValidDependenciesRow : OpenClaim := { program := "ytbbpoegdcecopaa", sum := "576e68cf1de914b585bf4b62d84ac748af461ffb99b11b29a8c426f2871ff085", func := "loop.example/g01919/laws.FnExactAreValidDependencies", spec := "fnExactAreValidDependencies", unfollowed := true, recurses := true, apart := false }
def FnExactAreValidDependenciesSaid : Prop := fnExactAreValidDependenciesRow.holds Try.pinned (OpenSpec.ofChange fnExactAreValidDependenciesSpec)

/-- ITS FALSE NEIGHBOUR: 'it returns false'. Refute it at one input. -/
def fnExactAreValidDependenciesWrong : ChangeSpec := { name := "fnExactAreValidDependencies", fn := fun _ => fun
  | [d1, d2] => { results := [.lit (.bool false)], args := [d1, d2] }
  | _ => none }
def FnExactAreValidDependenciesWrongFalsely : Prop := fnExactAreValidDependenciesRow.holds Try.pinned (OpenSpec.ofChange fnExactAreValidDependenciesWrong)

/-- 'laws.FnExactIsGround': WHATEVER THE INPUT: true; the input reads as it did. -/
def fnExactIsGroundSpec : ChangeSpec := { name := "fnExactIsGround", fn := fun _ => fun
  | [d] => { results := [.lit (.bool true)], args := [d] }
  | _ => none }
def fnExactIsGroundRow : OpenClaim := { program := "ytbbpoegdcecopaa", sum := "576e68cf1de914b585bf4b62d84ac748af461ffb99b11b29a8c426f2871ff085", func := "loop.example/g01919/laws.FnExactIsGround", spec := "fnExactIsGround", unfollowed := true, recurses := true, apart := false }
def FnExactIsGroundSaid : Prop := fnExactIsGroundRow.holds Try.pinned (OpenSpec.ofChange fnExactIsGroundSpec)

/-- ITS FALSE NEIGHBOUR: 'it returns false'. Refute it at one input. -/
def fnExactIsGroundWrong : ChangeSpec := { name := "fnExactIsGround", fn := fun _ => fun
  | [d] => { results := [.lit (.bool false)], args := [d] }
  | _ => none }
def FnExactIsGroundWrongFalsely : Prop := fnExactIsGroundRow.holds Try.pinned (OpenSpec.ofChange fnExactIsGroundWrong)

/-- 'laws.FnRestrict': WHATEVER THE INPUT: true; the input reads as it did. -/
def fnRestrictSpec : ChangeSpec := { name := "fnRestrict", fn := fun _ => fun
  | [d] => { results := [.lit (.bool true)], args := [d] }
  | _ => none }
def fnRestrictRow : OpenClaim := { program := "ytbbpoegdcecopaa", sum := "576e68cf1de914b585bf4b62d84ac748af461ffb99b11b29a8c426f2871ff085", func := "loop.example/g01919/laws.FnRestrict", spec := "fnRestrict", unfollowed := true, recurses := true, apart := false }
def FnRestrictSaid : Prop := fnRestrictRow.holds Try.pinned (OpenSpec.ofChange fnRestrictSpec)

/-- ITS FALSE NEIGHBOUR: 'it returns false'. Refute it at one input. -/
def fnRestrictWrong : ChangeSpec := { name := "fnRestrict", fn := fun _ => fun
  | [d] => { results := [.lit (.bool false)], args := [d] }
  | _ => none }
def FnRestrictWrongFalsely : Prop := fnRestrictRow.holds Try.pinned (OpenSpec.ofChange fnRestrictWrong)

/-- 'laws.FnExactHasExtension': WHATEVER THE INPUT: true; the input reads as it did. -/
def fnExactHasExtensionSpec : ChangeSpec := { name := "fnExactHasExtension", fn := fun _ => fun
  | [d1, d2, d3] => { results := [.lit (.bool true)], args := [d1, d2, d3] }
  | _ => none }
def fnExactHasExtensionRow : OpenClaim := { program := "ytbbpoegdcecopaa", sum := "576e68cf1de914b585bf4b62d84ac748af461ffb99b11b29a8c426f2871ff085", func := "loop.example/g01919/laws.FnExactHasExtension", spec := "fnExactHasExtension", unfollowed := true, recurses := true, apart := false }
def FnExactHasExtensionSaid : Prop := fnExactHasExtensionRow.holds Try.pinned (OpenSpec.ofChange fnExactHasExtensionSpec)

/-- ITS FALSE NEIGHBOUR: 'it returns false'. Refute it at one input. -/
def fnExactHasExtensionWrong : ChangeSpec := { name := "fnExactHasExtension", fn := fun _ => fun
  | [d1, d2, d3] => { results := [.lit (.bool false)], args := [d1, d2, d3] }
  | _ => none }
def FnExactHasExtensionWrongFalsely : Prop := fnExactHasExtensionRow.holds Try.pinned (OpenSpec.ofChange fnExactHasExtensionWrong)

/-- 'laws.FnExactIsWeaklyAcyclic': WHATEVER THE INPUT: true; the input reads as it did. -/
def fnExactIsWeaklyAcyclicSpec : ChangeSpec := { name := "fnExactIsWeaklyAcyclic", fn := fun _ => fun
  | [d1, d2] => { results := [.lit (.bool true)], args := [d1, d2] }
  | _ => none }
def fnExactIsWeaklyAcyclicRow : OpenClaim := { program := "ytbbpoegdcecopaa", sum := "576e68cf1de914b585bf4b62d84ac748af461ffb99b11b29a8c426f2871ff085", func := "loop.example/g01919/laws.FnExactIsWeaklyAcyclic", spec := "fnExactIsWeaklyAcyclic", unfollowed := true, recurses := true, apart := false }
def FnExactIsWeaklyAcyclicSaid : Prop := fnExactIsWeaklyAcyclicRow.holds Try.pinned (OpenSpec.ofChange fnExactIsWeaklyAcyclicSpec)

/-- ITS FALSE NEIGHBOUR: 'it returns false'. Refute it at one input. -/
def fnExactIsWeaklyAcyclicWrong : ChangeSpec := { name := "fnExactIsWeaklyAcyclic", fn := fun _ => fun
  | [d1, d2] => { results := [.lit (.bool false)], args := [d1, d2] }
  | _ => none }
def FnExactIsWeaklyAcyclicWrongFalsely : Prop := fnExactIsWeaklyAcyclicRow.holds Try.pinned (OpenSpec.ofChange fnExactIsWeaklyAcyclicWrong)

/-- 'laws.FnExactSpecialCycleEdge': WHATEVER THE INPUT: true; the input reads as it did. -/
def fnExactSpecialCycleEdgeSpec : ChangeSpec := { name := "fnExactSpecialCycleEdge", fn := fun _ => fun
  | [d1, d2] => { results := [.lit (.bool true)], args := [d1, d2] }
  | _ => none }
def fnExactSpecialCycleEdgeRow : OpenClaim := { program := "ytbbpoegdcecopaa", sum := "576e68cf1de914b585bf4b62d84ac748af461ffb99b11b29a8c426f2871ff085", func := "loop.example/g01919/laws.FnExactSpecialCycleEdge", spec := "fnExactSpecialCycleEdge", unfollowed := true, recurses := true, apart := false }
def FnExactSpecialCycleEdgeSaid : Prop := fnExactSpecialCycleEdgeRow.holds Try.pinned (OpenSpec.ofChange fnExactSpecialCycleEdgeSpec)

/-- ITS FALSE NEIGHBOUR: 'it returns false'. Refute it at one input. -/
def fnExactSpecialCycleEdgeWrong : ChangeSpec := { name := "fnExactSpecialCycleEdge", fn := fun _ => fun
  | [d1, d2] => { results := [.lit (.bool false)], args := [d1, d2] }
  | _ => none }
def FnExactSpecialCycleEdgeWrongFalsely : Prop := fnExactSpecialCycleEdgeRow.holds Try.pinned (OpenSpec.ofChange fnExactSpecialCycleEdgeWrong)

/-- 'laws.FnExactPositionGraph': WHATEVER THE INPUT: true; the input reads as it did. -/
def fnExactPositionGraphSpec : ChangeSpec := { name := "fnExactPositionGraph", fn := fun _ => fun
  | [d1, d2] => { results := [.lit (.bool true)], args := [d1, d2] }
  | _ => none }
def fnExactPositionGraphRow : OpenClaim := { program := "ytbbpoegdcecopaa", sum := "576e68cf1de914b585bf4b62d84ac748af461ffb99b11b29a8c426f2871ff085", func := "loop.example/g01919/laws.FnExactPositionGraph", spec := "fnExactPositionGraph", unfollowed := true, recurses := true, apart := false }
def FnExactPositionGraphSaid : Prop := fnExactPositionGraphRow.holds Try.pinned (OpenSpec.ofChange fnExactPositionGraphSpec)

/-- ITS FALSE NEIGHBOUR: 'it returns false'. Refute it at one input. -/
def fnExactPositionGraphWrong : ChangeSpec := { name := "fnExactPositionGraph", fn := fun _ => fun
  | [d1, d2] => { results := [.lit (.bool false)], args := [d1, d2] }
  | _ => none }
def FnExactPositionGraphWrongFalsely : Prop := fnExactPositionGraphRow.holds Try.pinned (OpenSpec.ofChange fnExactPositionGraphWrong)

/-- 'laws.FnExactPositionRank': WHATEVER THE INPUT: true; the input reads as it did. -/
def fnExactPositionRankSpec : ChangeSpec := { name := "fnExactPositionRank", fn := fun _ => fun
  | [d1, d2, d3] => { results := [.lit (.bool true)], args := [d1, d2, d3] }
  | _ => none }
def fnExactPositionRankRow : OpenClaim := { program := "ytbbpoegdcecopaa", sum := "576e68cf1de914b585bf4b62d84ac748af461ffb99b11b29a8c426f2871ff085", func := "loop.example/g01919/laws.FnExactPositionRank", spec := "fnExactPositionRank", unfollowed := true, recurses := true, apart := false }
def FnExactPositionRankSaid : Prop := fnExactPositionRankRow.holds Try.pinned (OpenSpec.ofChange fnExactPositionRankSpec)

/-- ITS FALSE NEIGHBOUR: 'it returns false'. Refute it at one input. -/
def fnExactPositionRankWrong : ChangeSpec := { name := "fnExactPositionRank", fn := fun _ => fun
  | [d1, d2, d3] => { results := [.lit (.bool false)], args := [d1, d2, d3] }
  | _ => none }
def FnExactPositionRankWrongFalsely : Prop := fnExactPositionRankRow.holds Try.pinned (OpenSpec.ofChange fnExactPositionRankWrong)

/- THE SECOND FORM. 'bulk': how many values and letters a reading holds, each counted each time it is reached (what is shared counts as often as it is met; a slice's spare places count too). A statement '..UptoSaid' is the law's where the arguments, and the package variables that the reading takes, are together of bulk at most 1048576: NARROWER than '..Said'. Prove '..Said' where nothing that the law and all that it calls make is longer than what came in: it says more and counts as full. Else prove '..UptoSaid'. A law counts once. -/
mutual
def uptoBulk {H : Type} : DataW H → Nat
  | .lit (.string bytes) => bytes.length + 1
  | .lit _ => 1
  | .nil => 1
  | .ptr d => uptoBulk d + 1
  | .slice elems spare => uptoBulkAll elems + uptoBulkAll spare + 1
  | .agg parts => uptoBulkAll parts + 1
  | .iface _ d => uptoBulk d + 1
  | .map entries => uptoBulkEntries entries + 1
  | .held _ => 1
def uptoBulkAll {H : Type} : List (DataW H) → Nat
  | [] => 0
  | d :: r => uptoBulk d + uptoBulkAll r
def uptoBulkEntries {H : Type} : List (Lit × DataW H) → Nat
  | [] => 0
  | x :: r => uptoBulkEntry x + uptoBulkEntries r
def uptoBulkEntry {H : Type} : Lit × DataW H → Nat
  | (.string bytes, d) => bytes.length + uptoBulk d + 1
  | (_, d) => uptoBulk d + 1
 end
def uptoSmall : (H : Type) → List (DataW H) → Bool := fun _ ds => decide (uptoBulkAll ds ≤ 1048576)
def OpenSpec.upto (s : _root_.Go.ChangeSpec) : _root_.Go.OpenSpec := { _root_.Go.OpenSpec.ofChange s with cond := some uptoSmall }

/-- 'laws.FnExactIsValidDependency', WHERE WHAT IT READS IS OF BULK AT MOST 1048576: true; the input reads as it did. -/
def fnExactIsValidDependencyUptoRow : OpenClaim := { program := "ytbbpoegdcecopaa", sum := "576e68cf1de914b585bf4b62d84ac748af461ffb99b11b29a8c426f2871ff085", func := "loop.example/g01919/laws.FnExactIsValidDependency", spec := "fnExactIsValidDependency", unfollowed := true, recurses := true, apart := false, narrowed := true }
def FnExactIsValidDependencyUptoSaid : Prop := fnExactIsValidDependencyUptoRow.holds Try.pinned (OpenSpec.upto fnExactIsValidDependencySpec)

/-- 'laws.FnExactAreValidDependencies', WHERE WHAT IT READS IS OF BULK AT MOST 1048576: true; the input reads as it did. -/
def fnExactAreValidDependenciesUptoRow : OpenClaim := { program := "ytbbpoegdcecopaa", sum := "576e68cf1de914b585bf4b62d84ac748af461ffb99b11b29a8c426f2871ff085", func := "loop.example/g01919/laws.FnExactAreValidDependencies", spec := "fnExactAreValidDependencies", unfollowed := true, recurses := true, apart := false, narrowed := true }
def FnExactAreValidDependenciesUptoSaid : Prop := fnExactAreValidDependenciesUptoRow.holds Try.pinned (OpenSpec.upto fnExactAreValidDependenciesSpec)

/-- 'laws.FnExactIsGround', WHERE WHAT IT READS IS OF BULK AT MOST 1048576: true; the input reads as it did. -/
def fnExactIsGroundUptoRow : OpenClaim := { program := "ytbbpoegdcecopaa", sum := "576e68cf1de914b585bf4b62d84ac748af461ffb99b11b29a8c426f2871ff085", func := "loop.example/g01919/laws.FnExactIsGround", spec := "fnExactIsGround", unfollowed := true, recurses := true, apart := false, narrowed := true }
def FnExactIsGroundUptoSaid : Prop := fnExactIsGroundUptoRow.holds Try.pinned (OpenSpec.upto fnExactIsGroundSpec)

/-- 'laws.FnRestrict', WHERE WHAT IT READS IS OF BULK AT MOST 1048576: true; the input reads as it did. -/
def fnRestrictUptoRow : OpenClaim := { program := "ytbbpoegdcecopaa", sum := "576e68cf1de914b585bf4b62d84ac748af461ffb99b11b29a8c426f2871ff085", func := "loop.example/g01919/laws.FnRestrict", spec := "fnRestrict", unfollowed := true, recurses := true, apart := false, narrowed := true }
def FnRestrictUptoSaid : Prop := fnRestrictUptoRow.holds Try.pinned (OpenSpec.upto fnRestrictSpec)

/-- 'laws.FnExactHasExtension', WHERE WHAT IT READS IS OF BULK AT MOST 1048576: true; the input reads as it did. -/
def fnExactHasExtensionUptoRow : OpenClaim := { program := "ytbbpoegdcecopaa", sum := "576e68cf1de914b585bf4b62d84ac748af461ffb99b11b29a8c426f2871ff085", func := "loop.example/g01919/laws.FnExactHasExtension", spec := "fnExactHasExtension", unfollowed := true, recurses := true, apart := false, narrowed := true }
def FnExactHasExtensionUptoSaid : Prop := fnExactHasExtensionUptoRow.holds Try.pinned (OpenSpec.upto fnExactHasExtensionSpec)

/-- 'laws.FnExactIsWeaklyAcyclic', WHERE WHAT IT READS IS OF BULK AT MOST 1048576: true; the input reads as it did. -/
def fnExactIsWeaklyAcyclicUptoRow : OpenClaim := { program := "ytbbpoegdcecopaa", sum := "576e68cf1de914b585bf4b62d84ac748af461ffb99b11b29a8c426f2871ff085", func := "loop.example/g01919/laws.FnExactIsWeaklyAcyclic", spec := "fnExactIsWeaklyAcyclic", unfollowed := true, recurses := true, apart := false, narrowed := true }
def FnExactIsWeaklyAcyclicUptoSaid : Prop := fnExactIsWeaklyAcyclicUptoRow.holds Try.pinned (OpenSpec.upto fnExactIsWeaklyAcyclicSpec)

/-- 'laws.FnExactSpecialCycleEdge', WHERE WHAT IT READS IS OF BULK AT MOST 1048576: true; the input reads as it did. -/
def fnExactSpecialCycleEdgeUptoRow : OpenClaim := { program := "ytbbpoegdcecopaa", sum := "576e68cf1de914b585bf4b62d84ac748af461ffb99b11b29a8c426f2871ff085", func := "loop.example/g01919/laws.FnExactSpecialCycleEdge", spec := "fnExactSpecialCycleEdge", unfollowed := true, recurses := true, apart := false, narrowed := true }
def FnExactSpecialCycleEdgeUptoSaid : Prop := fnExactSpecialCycleEdgeUptoRow.holds Try.pinned (OpenSpec.upto fnExactSpecialCycleEdgeSpec)

/-- 'laws.FnExactPositionGraph', WHERE WHAT IT READS IS OF BULK AT MOST 1048576: true; the input reads as it did. -/
def fnExactPositionGraphUptoRow : OpenClaim := { program := "ytbbpoegdcecopaa", sum := "576e68cf1de914b585bf4b62d84ac748af461ffb99b11b29a8c426f2871ff085", func := "loop.example/g01919/laws.FnExactPositionGraph", spec := "fnExactPositionGraph", unfollowed := true, recurses := true, apart := false, narrowed := true }
def FnExactPositionGraphUptoSaid : Prop := fnExactPositionGraphUptoRow.holds Try.pinned (OpenSpec.upto fnExactPositionGraphSpec)

/-- 'laws.FnExactPositionRank', WHERE WHAT IT READS IS OF BULK AT MOST 1048576: true; the input reads as it did. -/
def fnExactPositionRankUptoRow : OpenClaim := { program := "ytbbpoegdcecopaa", sum := "576e68cf1de914b585bf4b62d84ac748af461ffb99b11b29a8c426f2871ff085", func := "loop.example/g01919/laws.FnExactPositionRank", spec := "fnExactPositionRank", unfollowed := true, recurses := true, apart := false, narrowed := true }
def FnExactPositionRankUptoSaid : Prop := fnExactPositionRankUptoRow.holds Try.pinned (OpenSpec.upto fnExactPositionRankSpec)

end Rows
end Go.Proofs.Ytbbpoegdcecopaa
