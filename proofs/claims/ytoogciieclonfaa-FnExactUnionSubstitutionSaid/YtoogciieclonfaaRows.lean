/-
  No cell of these rows narrows 'for every input' (looked for: loops, veiled, ifaces, maps, wideKeys, modest, calm, conditions, laid).
  DERIVED. THE GIVEN ROWS OF THIS SEAT. 4 by the template 'for every input the law returns true; each argument reads behind the call as it read before'; 0 by the template 'total and deterministic' (their statements: YtoogciieclonfaaTotals.lean).
  GIVEN WITH THE SEED: the statements are not yours to turn. If you find one false, say at which input.
  Laid BY PROGRAM, IN A SANDBOX (cutbox-rows.mjs): the forced cells as the released guide's own fill.sh prints them over the translation db36c659a5c8524d… (all of the seat's roots in one cut). By AI agents, Wed Nov 11 2026. No macro, syntax, notation, axiom, sorry.
-/
import Derived.Test.YtoogciieclonfaaChecked
import GoSem.Claim
import GoSem.ClaimJoined
import GoSem.ClaimMapViews
import Derived.JoinedTies
import Derived.KernelRfl
namespace Go.Proofs.Ytoogciieclonfaa
/- THE CELL 'sum', in the pinned program and in every row, IS THE sha256 OF THE DUMP (.gsa) THAT YtoogciieclonfaaProg.lean LOADS. Nothing in Lean hashes anything: it is a label: what it is worth is what the hold of that sum in a sandbox is worth. -/
noncomputable def Try.pinned : Pinned := { name := "ytoogciieclonfaa", sum := "db36c659a5c8524d5bc603177bff1315f6948cfc059c55ff22b5659257f1c560", checked := Try.checked }
namespace Rows
def none {H : Type} : Left H := { results := [], args := [] }

/-- 'laws.FnExactUnionSubstitution': WHATEVER THE INPUT: true; the input reads as it did. -/
def fnExactUnionSubstitutionSpec : ChangeSpec := { name := "fnExactUnionSubstitution", fn := fun _ => fun
  | [d] => { results := [.lit (.bool true)], args := [d] }
  | _ => none }
def fnExactUnionSubstitutionRow : OpenClaim := { program := "ytoogciieclonfaa", sum := "db36c659a5c8524d5bc603177bff1315f6948cfc059c55ff22b5659257f1c560", func := "loop.example/g01919/laws.FnExactUnionSubstitution", spec := "fnExactUnionSubstitution", apart := false }
def FnExactUnionSubstitutionSaid : Prop := fnExactUnionSubstitutionRow.holds Try.pinned (OpenSpec.ofChange fnExactUnionSubstitutionSpec)

/-- ITS FALSE NEIGHBOUR: 'it returns false'. Refute it at one input. -/
def fnExactUnionSubstitutionWrong : ChangeSpec := { name := "fnExactUnionSubstitution", fn := fun _ => fun
  | [d] => { results := [.lit (.bool false)], args := [d] }
  | _ => none }
def FnExactUnionSubstitutionWrongFalsely : Prop := fnExactUnionSubstitutionRow.holds Try.pinned (OpenSpec.ofChange fnExactUnionSubstitutionWrong)

/-- 'laws.FnExactPositionGraph': WHATEVER THE INPUT: true; the input reads as it did. -/
def fnExactPositionGraphSpec : ChangeSpec := { name := "fnExactPositionGraph", fn := fun _ => fun
  | [d1, d2] => { results := [.lit (.bool true)], args := [d1, d2] }
  | _ => none }
def fnExactPositionGraphRow : OpenClaim := { program := "ytoogciieclonfaa", sum := "db36c659a5c8524d5bc603177bff1315f6948cfc059c55ff22b5659257f1c560", func := "loop.example/g01919/laws.FnExactPositionGraph", spec := "fnExactPositionGraph", unfollowed := true, recurses := true, apart := false }
def FnExactPositionGraphSaid : Prop := fnExactPositionGraphRow.holds Try.pinned (OpenSpec.ofChange fnExactPositionGraphSpec)

/-- ITS FALSE NEIGHBOUR: 'it returns false'. Refute it at one input. -/
def fnExactPositionGraphWrong : ChangeSpec := { name := "fnExactPositionGraph", fn := fun _ => fun
  | [d1, d2] => { results := [.lit (.bool false)], args := [d1, d2] }
  | _ => none }
def FnExactPositionGraphWrongFalsely : Prop := fnExactPositionGraphRow.holds Try.pinned (OpenSpec.ofChange fnExactPositionGraphWrong)

/-- 'laws.FnExactIsWeaklyAcyclic': WHATEVER THE INPUT: true; the input reads as it did. -/
def fnExactIsWeaklyAcyclicSpec : ChangeSpec := { name := "fnExactIsWeaklyAcyclic", fn := fun _ => fun
  | [d1, d2] => { results := [.lit (.bool true)], args := [d1, d2] }
  | _ => none }
def fnExactIsWeaklyAcyclicRow : OpenClaim := { program := "ytoogciieclonfaa", sum := "db36c659a5c8524d5bc603177bff1315f6948cfc059c55ff22b5659257f1c560", func := "loop.example/g01919/laws.FnExactIsWeaklyAcyclic", spec := "fnExactIsWeaklyAcyclic", unfollowed := true, recurses := true, apart := false }
def FnExactIsWeaklyAcyclicSaid : Prop := fnExactIsWeaklyAcyclicRow.holds Try.pinned (OpenSpec.ofChange fnExactIsWeaklyAcyclicSpec)

/-- ITS FALSE NEIGHBOUR: 'it returns false'. Refute it at one input. -/
def fnExactIsWeaklyAcyclicWrong : ChangeSpec := { name := "fnExactIsWeaklyAcyclic", fn := fun _ => fun
  | [d1, d2] => { results := [.lit (.bool false)], args := [d1, d2] }
  | _ => none }
def FnExactIsWeaklyAcyclicWrongFalsely : Prop := fnExactIsWeaklyAcyclicRow.holds Try.pinned (OpenSpec.ofChange fnExactIsWeaklyAcyclicWrong)

/-- 'laws.FnExactSpecialCycleEdge': WHATEVER THE INPUT: true; the input reads as it did. -/
def fnExactSpecialCycleEdgeSpec : ChangeSpec := { name := "fnExactSpecialCycleEdge", fn := fun _ => fun
  | [d1, d2] => { results := [.lit (.bool true)], args := [d1, d2] }
  | _ => none }
def fnExactSpecialCycleEdgeRow : OpenClaim := { program := "ytoogciieclonfaa", sum := "db36c659a5c8524d5bc603177bff1315f6948cfc059c55ff22b5659257f1c560", func := "loop.example/g01919/laws.FnExactSpecialCycleEdge", spec := "fnExactSpecialCycleEdge", unfollowed := true, recurses := true, apart := false }
def FnExactSpecialCycleEdgeSaid : Prop := fnExactSpecialCycleEdgeRow.holds Try.pinned (OpenSpec.ofChange fnExactSpecialCycleEdgeSpec)

/-- ITS FALSE NEIGHBOUR: 'it returns false'. Refute it at one input. -/
def fnExactSpecialCycleEdgeWrong : ChangeSpec := { name := "fnExactSpecialCycleEdge", fn := fun _ => fun
  | [d1, d2] => { results := [.lit (.bool false)], args := [d1, d2] }
  | _ => none }
def FnExactSpecialCycleEdgeWrongFalsely : Prop := fnExactSpecialCycleEdgeRow.holds Try.pinned (OpenSpec.ofChange fnExactSpecialCycleEdgeWrong)

/- THE SECOND FORM. 'bulk': how many values and letters a reading holds, each counted each time it is reached (what is shared counts as often as it is met; a slice's spare places count too). A statement '..UptoSaid' is the law's where the arguments, and the package variables that the reading takes, are together of bulk at most 1048576: NARROWER than '..Said'. Prove '..Said' where nothing that the law and all that it calls make is longer than what came in: it says more and counts as full. Else prove '..UptoSaid'. A law counts once. -/
mutual
def uptoBulk {H : Type} : DataW H → Nat
  | .lit (.string bytes) => bytes.length + 1
  | .lit _ => 1
  | .nil => 1
  | .ptr d => uptoBulk d + 1
  | .slice elems spare => uptoBulkAll elems + uptoBulkAll spare + 1
  | .agg parts => uptoBulkAll parts + 1
  | .iface _ d => uptoBulk d + 1
  | .map entries => uptoBulkEntries entries + 1
  | .held _ => 1
def uptoBulkAll {H : Type} : List (DataW H) → Nat
  | [] => 0
  | d :: r => uptoBulk d + uptoBulkAll r
def uptoBulkEntries {H : Type} : List (Lit × DataW H) → Nat
  | [] => 0
  | x :: r => uptoBulkEntry x + uptoBulkEntries r
def uptoBulkEntry {H : Type} : Lit × DataW H → Nat
  | (.string bytes, d) => bytes.length + uptoBulk d + 1
  | (_, d) => uptoBulk d + 1
 end
def uptoSmall : (H : Type) → List (DataW H) → Bool := fun _ ds => decide (uptoBulkAll ds ≤ 1048576)
def OpenSpec.upto (s : _root_.Go.ChangeSpec) : _root_.Go.OpenSpec := { _root_.Go.OpenSpec.ofChange s with cond := some uptoSmall }

/-- 'laws.FnExactUnionSubstitution', WHERE WHAT IT READS IS OF BULK AT MOST 1048576: true; the input reads as it did. -/
def fnExactUnionSubstitutionUptoRow : OpenClaim := { program := "ytoogciieclonfaa", sum := "db36c659a5c8524d5bc603177bff1315f6948cfc059c55ff22b5659257f1c560", func := "loop.example/g01919/laws.FnExactUnionSubstitution", spec := "fnExactUnionSubstitution", apart := false, narrowed := true }
def FnExactUnionSubstitutionUptoSaid : Prop := fnExactUnionSubstitutionUptoRow.holds Try.pinned (OpenSpec.upto fnExactUnionSubstitutionSpec)

/-- 'laws.FnExactPositionGraph', WHERE WHAT IT READS IS OF BULK AT MOST 1048576: true; the input reads as it did. -/
def fnExactPositionGraphUptoRow : OpenClaim := { program := "ytoogciieclonfaa", sum := "db36c659a5c8524d5bc603177bff1315f6948cfc059c55ff22b5659257f1c560", func := "loop.example/g01919/laws.FnExactPositionGraph", spec := "fnExactPositionGraph", unfollowed := true, recurses := true, apart := false, narrowed := true }
def FnExactPositionGraphUptoSaid : Prop := fnExactPositionGraphUptoRow.holds Try.pinned (OpenSpec.upto fnExactPositionGraphSpec)

/-- 'laws.FnExactIsWeaklyAcyclic', WHERE WHAT IT READS IS OF BULK AT MOST 1048576: true; the input reads as it did. -/
def fnExactIsWeaklyAcyclicUptoRow : OpenClaim := { program := "ytoogciieclonfaa", sum := "db36c659a5c8524d5bc603177bff1315f6948cfc059c55ff22b5659257f1c560", func := "loop.example/g01919/laws.FnExactIsWeaklyAcyclic", spec := "fnExactIsWeaklyAcyclic", unfollowed := true, recurses := true, apart := false, narrowed := true }
def FnExactIsWeaklyAcyclicUptoSaid : Prop := fnExactIsWeaklyAcyclicUptoRow.holds Try.pinned (OpenSpec.upto fnExactIsWeaklyAcyclicSpec)

/-- 'laws.FnExactSpecialCycleEdge', WHERE WHAT IT READS IS OF BULK AT MOST 1048576: true; the input reads as it did. -/
def fnExactSpecialCycleEdgeUptoRow : OpenClaim := { program := "ytoogciieclonfaa", sum := "db36c659a5c8524d5bc603177bff1315f6948cfc059c55ff22b5659257f1c560", func := "loop.example/g01919/laws.FnExactSpecialCycleEdge", spec := "fnExactSpecialCycleEdge", unfollowed := true, recurses := true, apart := false, narrowed := true }
def FnExactSpecialCycleEdgeUptoSaid : Prop := fnExactSpecialCycleEdgeUptoRow.holds Try.pinned (OpenSpec.upto fnExactSpecialCycleEdgeSpec)

end Rows
end Go.Proofs.Ytoogciieclonfaa
