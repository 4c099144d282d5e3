/-
  No cell of these rows narrows 'for every input' (looked for: loops, veiled, ifaces, maps, wideKeys, modest, calm, conditions, laid).
  DERIVED. THE GIVEN ROWS OF THIS SEAT. 8 by the template 'for every input the law returns true; each argument reads behind the call as it read before'; 0 by the template 'total and deterministic' (their statements: YtdmionnnkaohdaaTotals.lean).
  GIVEN WITH THE SEED: the statements are not yours to turn. If you find one false, say at which input.
  Laid BY PROGRAM, IN A SANDBOX (cutbox-rows.mjs): the forced cells as the released guide's own fill.sh prints them over the translation 76b116e965b477be… (all of the seat's roots in one cut). By AI agents, Wed Nov 11 2026. No macro, syntax, notation, axiom, sorry.
-/
import Derived.Test.YtdmionnnkaohdaaChecked
import GoSem.Claim
import GoSem.ClaimJoined
import GoSem.ClaimMapViews
import Derived.JoinedTies
import Derived.KernelRfl
namespace Go.Proofs.Ytdmionnnkaohdaa
/- THE CELL 'sum', in the pinned program and in every row, IS THE sha256 OF THE DUMP (.gsa) THAT YtdmionnnkaohdaaProg.lean LOADS. Nothing in Lean hashes anything: it is a label: what it is worth is what the hold of that sum in a sandbox is worth. -/
noncomputable def Try.pinned : Pinned := { name := "ytdmionnnkaohdaa", sum := "76b116e965b477bed097c5c7c1b9402ddf150c7de5fbe90e9ff97f1bb6523f03", checked := Try.checked }
namespace Rows
def none {H : Type} : Left H := { results := [], args := [] }

/-- 'laws.FnExactEqualDependencies': WHATEVER THE INPUT: true; the input reads as it did. -/
def fnExactEqualDependenciesSpec : ChangeSpec := { name := "fnExactEqualDependencies", fn := fun _ => fun
  | [d1, d2] => { results := [.lit (.bool true)], args := [d1, d2] }
  | _ => none }
def fnExactEqualDependenciesRow : OpenClaim := { program := "ytdmionnnkaohdaa", sum := "76b116e965b477bed097c5c7c1b9402ddf150c7de5fbe90e9ff97f1bb6523f03", func := "loop.example/g01919/laws.FnExactEqualDependencies", spec := "fnExactEqualDependencies", unfollowed := true, recurses := true, apart := false }
def FnExactEqualDependenciesSaid : Prop := fnExactEqualDependenciesRow.holds Try.pinned (OpenSpec.ofChange fnExactEqualDependenciesSpec)

/-- ITS FALSE NEIGHBOUR: 'it returns false'. Refute it at one input. -/
def fnExactEqualDependenciesWrong : ChangeSpec := { name := "fnExactEqualDependencies", fn := fun _ => fun
  | [d1, d2] => { results := [.lit (.bool false)], args := [d1, d2] }
  | _ => none }
def FnExactEqualDependenciesWrongFalsely : Prop := fnExactEqualDependenciesRow.holds Try.pinned (OpenSpec.ofChange fnExactEqualDependenciesWrong)

/-- 'laws.FnExactUnion': WHATEVER THE INPUT: true; the input reads as it did. -/
def fnExactUnionSpec : ChangeSpec := { name := "fnExactUnion", fn := fun _ => fun
  | [d1, d2, d3] => { results := [.lit (.bool true)], args := [d1, d2, d3] }
  | _ => none }
def fnExactUnionRow : OpenClaim := { program := "ytdmionnnkaohdaa", sum := "76b116e965b477bed097c5c7c1b9402ddf150c7de5fbe90e9ff97f1bb6523f03", func := "loop.example/g01919/laws.FnExactUnion", spec := "fnExactUnion", apart := false }
def FnExactUnionSaid : Prop := fnExactUnionRow.holds Try.pinned (OpenSpec.ofChange fnExactUnionSpec)

/-- ITS FALSE NEIGHBOUR: 'it returns false'. Refute it at one input. -/
def fnExactUnionWrong : ChangeSpec := { name := "fnExactUnion", fn := fun _ => fun
  | [d1, d2, d3] => { results := [.lit (.bool false)], args := [d1, d2, d3] }
  | _ => none }
def FnExactUnionWrongFalsely : Prop := fnExactUnionRow.holds Try.pinned (OpenSpec.ofChange fnExactUnionWrong)

/-- 'laws.FnEquivalenceClasses': WHATEVER THE INPUT: true; the input reads as it did. -/
def fnEquivalenceClassesSpec : ChangeSpec := { name := "fnEquivalenceClasses", fn := fun _ => fun
  | [d] => { results := [.lit (.bool true)], args := [d] }
  | _ => none }
def fnEquivalenceClassesRow : OpenClaim := { program := "ytdmionnnkaohdaa", sum := "76b116e965b477bed097c5c7c1b9402ddf150c7de5fbe90e9ff97f1bb6523f03", func := "loop.example/g01919/laws.FnEquivalenceClasses", spec := "fnEquivalenceClasses", apart := false }
def FnEquivalenceClassesSaid : Prop := fnEquivalenceClassesRow.holds Try.pinned (OpenSpec.ofChange fnEquivalenceClassesSpec)

/-- ITS FALSE NEIGHBOUR: 'it returns false'. Refute it at one input. -/
def fnEquivalenceClassesWrong : ChangeSpec := { name := "fnEquivalenceClasses", fn := fun _ => fun
  | [d] => { results := [.lit (.bool false)], args := [d] }
  | _ => none }
def FnEquivalenceClassesWrongFalsely : Prop := fnEquivalenceClassesRow.holds Try.pinned (OpenSpec.ofChange fnEquivalenceClassesWrong)

/-- 'laws.FnUnionFind': WHATEVER THE INPUT: true; the input reads as it did. -/
def fnUnionFindSpec : ChangeSpec := { name := "fnUnionFind", fn := fun _ => fun
  | [d] => { results := [.lit (.bool true)], args := [d] }
  | _ => none }
def fnUnionFindRow : OpenClaim := { program := "ytdmionnnkaohdaa", sum := "76b116e965b477bed097c5c7c1b9402ddf150c7de5fbe90e9ff97f1bb6523f03", func := "loop.example/g01919/laws.FnUnionFind", spec := "fnUnionFind", apart := false }
def FnUnionFindSaid : Prop := fnUnionFindRow.holds Try.pinned (OpenSpec.ofChange fnUnionFindSpec)

/-- ITS FALSE NEIGHBOUR: 'it returns false'. Refute it at one input. -/
def fnUnionFindWrong : ChangeSpec := { name := "fnUnionFind", fn := fun _ => fun
  | [d] => { results := [.lit (.bool false)], args := [d] }
  | _ => none }
def FnUnionFindWrongFalsely : Prop := fnUnionFindRow.holds Try.pinned (OpenSpec.ofChange fnUnionFindWrong)

/-- 'laws.FnExactVariables': WHATEVER THE INPUT: true; the input reads as it did. -/
def fnExactVariablesSpec : ChangeSpec := { name := "fnExactVariables", fn := fun _ => fun
  | [d] => { results := [.lit (.bool true)], args := [d] }
  | _ => none }
def fnExactVariablesRow : OpenClaim := { program := "ytdmionnnkaohdaa", sum := "76b116e965b477bed097c5c7c1b9402ddf150c7de5fbe90e9ff97f1bb6523f03", func := "loop.example/g01919/laws.FnExactVariables", spec := "fnExactVariables", recurses := true, apart := false }
def FnExactVariablesSaid : Prop := fnExactVariablesRow.holds Try.pinned (OpenSpec.ofChange fnExactVariablesSpec)

/-- ITS FALSE NEIGHBOUR: 'it returns false'. Refute it at one input. -/
def fnExactVariablesWrong : ChangeSpec := { name := "fnExactVariables", fn := fun _ => fun
  | [d] => { results := [.lit (.bool false)], args := [d] }
  | _ => none }
def FnExactVariablesWrongFalsely : Prop := fnExactVariablesRow.holds Try.pinned (OpenSpec.ofChange fnExactVariablesWrong)

/-- 'laws.FnExactExistentialVariables': WHATEVER THE INPUT: true; the input reads as it did. -/
def fnExactExistentialVariablesSpec : ChangeSpec := { name := "fnExactExistentialVariables", fn := fun _ => fun
  | [d] => { results := [.lit (.bool true)], args := [d] }
  | _ => none }
def fnExactExistentialVariablesRow : OpenClaim := { program := "ytdmionnnkaohdaa", sum := "76b116e965b477bed097c5c7c1b9402ddf150c7de5fbe90e9ff97f1bb6523f03", func := "loop.example/g01919/laws.FnExactExistentialVariables", spec := "fnExactExistentialVariables", recurses := true, apart := false }
def FnExactExistentialVariablesSaid : Prop := fnExactExistentialVariablesRow.holds Try.pinned (OpenSpec.ofChange fnExactExistentialVariablesSpec)

/-- ITS FALSE NEIGHBOUR: 'it returns false'. Refute it at one input. -/
def fnExactExistentialVariablesWrong : ChangeSpec := { name := "fnExactExistentialVariables", fn := fun _ => fun
  | [d] => { results := [.lit (.bool false)], args := [d] }
  | _ => none }
def FnExactExistentialVariablesWrongFalsely : Prop := fnExactExistentialVariablesRow.holds Try.pinned (OpenSpec.ofChange fnExactExistentialVariablesWrong)

/-- 'laws.FnExactFrontierVariables': WHATEVER THE INPUT: true; the input reads as it did. -/
def fnExactFrontierVariablesSpec : ChangeSpec := { name := "fnExactFrontierVariables", fn := fun _ => fun
  | [d] => { results := [.lit (.bool true)], args := [d] }
  | _ => none }
def fnExactFrontierVariablesRow : OpenClaim := { program := "ytdmionnnkaohdaa", sum := "76b116e965b477bed097c5c7c1b9402ddf150c7de5fbe90e9ff97f1bb6523f03", func := "loop.example/g01919/laws.FnExactFrontierVariables", spec := "fnExactFrontierVariables", recurses := true, apart := false }
def FnExactFrontierVariablesSaid : Prop := fnExactFrontierVariablesRow.holds Try.pinned (OpenSpec.ofChange fnExactFrontierVariablesSpec)

/-- ITS FALSE NEIGHBOUR: 'it returns false'. Refute it at one input. -/
def fnExactFrontierVariablesWrong : ChangeSpec := { name := "fnExactFrontierVariables", fn := fun _ => fun
  | [d] => { results := [.lit (.bool false)], args := [d] }
  | _ => none }
def FnExactFrontierVariablesWrongFalsely : Prop := fnExactFrontierVariablesRow.holds Try.pinned (OpenSpec.ofChange fnExactFrontierVariablesWrong)

/-- 'laws.FnExactNextNull': WHATEVER THE INPUT: true; the input reads as it did. -/
def fnExactNextNullSpec : ChangeSpec := { name := "fnExactNextNull", fn := fun _ => fun
  | [d] => { results := [.lit (.bool true)], args := [d] }
  | _ => none }
def fnExactNextNullRow : OpenClaim := { program := "ytdmionnnkaohdaa", sum := "76b116e965b477bed097c5c7c1b9402ddf150c7de5fbe90e9ff97f1bb6523f03", func := "loop.example/g01919/laws.FnExactNextNull", spec := "fnExactNextNull", recurses := true, apart := false }
def FnExactNextNullSaid : Prop := fnExactNextNullRow.holds Try.pinned (OpenSpec.ofChange fnExactNextNullSpec)

/-- ITS FALSE NEIGHBOUR: 'it returns false'. Refute it at one input. -/
def fnExactNextNullWrong : ChangeSpec := { name := "fnExactNextNull", fn := fun _ => fun
  | [d] => { results := [.lit (.bool false)], args := [d] }
  | _ => none }
def FnExactNextNullWrongFalsely : Prop := fnExactNextNullRow.holds Try.pinned (OpenSpec.ofChange fnExactNextNullWrong)

/- THE SECOND FORM. 'bulk': how many values and letters a reading holds, each counted each time it is reached (what is shared counts as often as it is met; a slice's spare places count too). A statement '..UptoSaid' is the law's where the arguments, and the package variables that the reading takes, are together of bulk at most 1048576: NARROWER than '..Said'. Prove '..Said' where nothing that the law and all that it calls make is longer than what came in: it says more and counts as full. Else prove '..UptoSaid'. A law counts once. -/
mutual
def uptoBulk {H : Type} : DataW H → Nat
  | .lit (.string bytes) => bytes.length + 1
  | .lit _ => 1
  | .nil => 1
  | .ptr d => uptoBulk d + 1
  | .slice elems spare => uptoBulkAll elems + uptoBulkAll spare + 1
  | .agg parts => uptoBulkAll parts + 1
  | .iface _ d => uptoBulk d + 1
  | .map entries => uptoBulkEntries entries + 1
  | .held _ => 1
def uptoBulkAll {H : Type} : List (DataW H) → Nat
  | [] => 0
  | d :: r => uptoBulk d + uptoBulkAll r
def uptoBulkEntries {H : Type} : List (Lit × DataW H) → Nat
  | [] => 0
  | x :: r => uptoBulkEntry x + uptoBulkEntries r
def uptoBulkEntry {H : Type} : Lit × DataW H → Nat
  | (.string bytes, d) => bytes.length + uptoBulk d + 1
  | (_, d) => uptoBulk d + 1
 end
def uptoSmall : (H : Type) → List (DataW H) → Bool := fun _ ds => decide (uptoBulkAll ds ≤ 1048576)
def OpenSpec.upto (s : _root_.Go.ChangeSpec) : _root_.Go.OpenSpec := { _root_.Go.OpenSpec.ofChange s with cond := some uptoSmall }

/-- 'laws.FnExactEqualDependencies', WHERE WHAT IT READS IS OF BULK AT MOST 1048576: true; the input reads as it did. -/
def fnExactEqualDependenciesUptoRow : OpenClaim := { program := "ytdmionnnkaohdaa", sum := "76b116e965b477bed097c5c7c1b9402ddf150c7de5fbe90e9ff97f1bb6523f03", func := "loop.example/g01919/laws.FnExactEqualDependencies", spec := "fnExactEqualDependencies", unfollowed := true, recurses := true, apart := false, narrowed := true }
def FnExactEqualDependenciesUptoSaid : Prop := fnExactEqualDependenciesUptoRow.holds Try.pinned (OpenSpec.upto fnExactEqualDependenciesSpec)

/-- 'laws.FnExactUnion', WHERE WHAT IT READS IS OF BULK AT MOST 1048576: true; the input reads as it did. -/
def fnExactUnionUptoRow : OpenClaim := { program := "ytdmionnnkaohdaa", sum := "76b116e965b477bed097c5c7c1b9402ddf150c7de5fbe90e9ff97f1bb6523f03", func := "loop.example/g01919/laws.FnExactUnion", spec := "fnExactUnion", apart := false, narrowed := true }
def FnExactUnionUptoSaid : Prop := fnExactUnionUptoRow.holds Try.pinned (OpenSpec.upto fnExactUnionSpec)

/-- 'laws.FnEquivalenceClasses', WHERE WHAT IT READS IS OF BULK AT MOST 1048576: true; the input reads as it did. -/
def fnEquivalenceClassesUptoRow : OpenClaim := { program := "ytdmionnnkaohdaa", sum := "76b116e965b477bed097c5c7c1b9402ddf150c7de5fbe90e9ff97f1bb6523f03", func := "loop.example/g01919/laws.FnEquivalenceClasses", spec := "fnEquivalenceClasses", apart := false, narrowed := true }
def FnEquivalenceClassesUptoSaid : Prop := fnEquivalenceClassesUptoRow.holds Try.pinned (OpenSpec.upto fnEquivalenceClassesSpec)

/-- 'laws.FnUnionFind', WHERE WHAT IT READS IS OF BULK AT MOST 1048576: true; the input reads as it did. -/
def fnUnionFindUptoRow : OpenClaim := { program := "ytdmionnnkaohdaa", sum := "76b116e965b477bed097c5c7c1b9402ddf150c7de5fbe90e9ff97f1bb6523f03", func := "loop.example/g01919/laws.FnUnionFind", spec := "fnUnionFind", apart := false, narrowed := true }
def FnUnionFindUptoSaid : Prop := fnUnionFindUptoRow.holds Try.pinned (OpenSpec.upto fnUnionFindSpec)

/-- 'laws.FnExactVariables', WHERE WHAT IT READS IS OF BULK AT MOST 1048576: true; the input reads as it did. -/
def fnExactVariablesUptoRow : OpenClaim := { program := "ytdmionnnkaohdaa", sum := "76b116e965b477bed097c5c7c1b9402ddf150c7de5fbe90e9ff97f1bb6523f03", func := "loop.example/g01919/laws.FnExactVariables", spec := "fnExactVariables", recurses := true, apart := false, narrowed := true }
def FnExactVariablesUptoSaid : Prop := fnExactVariablesUptoRow.holds Try.pinned (OpenSpec.upto fnExactVariablesSpec)

/-- 'laws.FnExactExistentialVariables', WHERE WHAT IT READS IS OF BULK AT MOST 1048576: true; the input reads as it did. -/
def fnExactExistentialVariablesUptoRow : OpenClaim := { program := "ytdmionnnkaohdaa", sum := "76b116e965b477bed097c5c7c1b9402ddf150c7de5fbe90e9ff97f1bb6523f03", func := "loop.example/g01919/laws.FnExactExistentialVariables", spec := "fnExactExistentialVariables", recurses := true, apart := false, narrowed := true }
def FnExactExistentialVariablesUptoSaid : Prop := fnExactExistentialVariablesUptoRow.holds Try.pinned (OpenSpec.upto fnExactExistentialVariablesSpec)

/-- 'laws.FnExactFrontierVariables', WHERE WHAT IT READS IS OF BULK AT MOST 1048576: true; the input reads as it did. -/
def fnExactFrontierVariablesUptoRow : OpenClaim := { program := "ytdmionnnkaohdaa", sum := "76b116e965b477bed097c5c7c1b9402ddf150c7de5fbe90e9ff97f1bb6523f03", func := "loop.example/g01919/laws.FnExactFrontierVariables", spec := "fnExactFrontierVariables", recurses := true, apart := false, narrowed := true }
def FnExactFrontierVariablesUptoSaid : Prop := fnExactFrontierVariablesUptoRow.holds Try.pinned (OpenSpec.upto fnExactFrontierVariablesSpec)

/-- 'laws.FnExactNextNull', WHERE WHAT IT READS IS OF BULK AT MOST 1048576: true; the input reads as it did. -/
def fnExactNextNullUptoRow : OpenClaim := { program := "ytdmionnnkaohdaa", sum := "76b116e965b477bed097c5c7c1b9402ddf150c7de5fbe90e9ff97f1bb6523f03", func := "loop.example/g01919/laws.FnExactNextNull", spec := "fnExactNextNull", recurses := true, apart := false, narrowed := true }
def FnExactNextNullUptoSaid : Prop := fnExactNextNullUptoRow.holds Try.pinned (OpenSpec.upto fnExactNextNullSpec)

end Rows
end Go.Proofs.Ytdmionnnkaohdaa
