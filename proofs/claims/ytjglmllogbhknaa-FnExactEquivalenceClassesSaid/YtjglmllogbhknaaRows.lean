/-
  No cell of these rows narrows 'for every input' (looked for: loops, veiled, ifaces, maps, wideKeys, modest, calm, conditions, laid).
  DERIVED. THE GIVEN ROWS OF THIS SEAT. 12 by the template 'for every input the law returns true; each argument reads behind the call as it read before'; 0 by the template 'total and deterministic' (their statements: YtjglmllogbhknaaTotals.lean).
  GIVEN WITH THE SEED: the statements are not yours to turn. If you find one false, say at which input.
  Laid BY PROGRAM, IN A SANDBOX (cutbox-rows.mjs): the forced cells as the released guide's own fill.sh prints them over the translation 87ad178496b4ac5b… (all of the seat's roots in one cut). By AI agents, Wed Nov 11 2026. No macro, syntax, notation, axiom, sorry.
-/
import Derived.Test.YtjglmllogbhknaaChecked
import GoSem.Claim
import GoSem.ClaimJoined
import GoSem.ClaimMapViews
import Derived.JoinedTies
import Derived.KernelRfl
namespace Go.Proofs.Ytjglmllogbhknaa
/- THE CELL 'sum', in the pinned program and in every row, IS THE sha256 OF THE DUMP (.gsa) THAT YtjglmllogbhknaaProg.lean LOADS. Nothing in Lean hashes anything: it is a label: what it is worth is what the hold of that sum in a sandbox is worth. -/
noncomputable def Try.pinned : Pinned := { name := "ytjglmllogbhknaa", sum := "87ad178496b4ac5be25e4f9d571ba2755f14808c14eb45acfcf5fe8fc579be40", checked := Try.checked }
namespace Rows
def none {H : Type} : Left H := { results := [], args := [] }

/-- 'laws.FnExactFormatCode': WHATEVER THE INPUT: true; the input reads as it did. -/
def fnExactFormatCodeSpec : ChangeSpec := { name := "fnExactFormatCode", fn := fun _ => fun
  | [d] => { results := [.lit (.bool true)], args := [d] }
  | _ => none }
def fnExactFormatCodeRow : OpenClaim := { program := "ytjglmllogbhknaa", sum := "87ad178496b4ac5be25e4f9d571ba2755f14808c14eb45acfcf5fe8fc579be40", func := "loop.example/g01919/laws.FnExactFormatCode", spec := "fnExactFormatCode", apart := false }
def FnExactFormatCodeSaid : Prop := fnExactFormatCodeRow.holds Try.pinned (OpenSpec.ofChange fnExactFormatCodeSpec)

/-- ITS FALSE NEIGHBOUR: 'it returns false'. Refute it at one input. -/
def fnExactFormatCodeWrong : ChangeSpec := { name := "fnExactFormatCode", fn := fun _ => fun
  | [d] => { results := [.lit (.bool false)], args := [d] }
  | _ => none }
def FnExactFormatCodeWrongFalsely : Prop := fnExactFormatCodeRow.holds Try.pinned (OpenSpec.ofChange fnExactFormatCodeWrong)

/-- 'laws.FnExactNewUnionFind': WHATEVER THE INPUT: true; the input reads as it did. -/
def fnExactNewUnionFindSpec : ChangeSpec := { name := "fnExactNewUnionFind", fn := fun _ => fun
  | [d] => { results := [.lit (.bool true)], args := [d] }
  | _ => none }
def fnExactNewUnionFindRow : OpenClaim := { program := "ytjglmllogbhknaa", sum := "87ad178496b4ac5be25e4f9d571ba2755f14808c14eb45acfcf5fe8fc579be40", func := "loop.example/g01919/laws.FnExactNewUnionFind", spec := "fnExactNewUnionFind", apart := false }
def FnExactNewUnionFindSaid : Prop := fnExactNewUnionFindRow.holds Try.pinned (OpenSpec.ofChange fnExactNewUnionFindSpec)

/-- ITS FALSE NEIGHBOUR: 'it returns false'. Refute it at one input. -/
def fnExactNewUnionFindWrong : ChangeSpec := { name := "fnExactNewUnionFind", fn := fun _ => fun
  | [d] => { results := [.lit (.bool false)], args := [d] }
  | _ => none }
def FnExactNewUnionFindWrongFalsely : Prop := fnExactNewUnionFindRow.holds Try.pinned (OpenSpec.ofChange fnExactNewUnionFindWrong)

/-- 'laws.FnExactIsReachable': WHATEVER THE INPUT: true; the input reads as it did. -/
def fnExactIsReachableSpec : ChangeSpec := { name := "fnExactIsReachable", fn := fun _ => fun
  | [d1, d2, d3, d4] => { results := [.lit (.bool true)], args := [d1, d2, d3, d4] }
  | _ => none }
def fnExactIsReachableRow : OpenClaim := { program := "ytjglmllogbhknaa", sum := "87ad178496b4ac5be25e4f9d571ba2755f14808c14eb45acfcf5fe8fc579be40", func := "loop.example/g01919/laws.FnExactIsReachable", spec := "fnExactIsReachable", apart := false }
def FnExactIsReachableSaid : Prop := fnExactIsReachableRow.holds Try.pinned (OpenSpec.ofChange fnExactIsReachableSpec)

/-- ITS FALSE NEIGHBOUR: 'it returns false'. Refute it at one input. -/
def fnExactIsReachableWrong : ChangeSpec := { name := "fnExactIsReachable", fn := fun _ => fun
  | [d1, d2, d3, d4] => { results := [.lit (.bool false)], args := [d1, d2, d3, d4] }
  | _ => none }
def FnExactIsReachableWrongFalsely : Prop := fnExactIsReachableRow.holds Try.pinned (OpenSpec.ofChange fnExactIsReachableWrong)

/-- 'laws.FnExactIsValidUnionFind': WHATEVER THE INPUT: true; the input reads as it did. -/
def fnExactIsValidUnionFindSpec : ChangeSpec := { name := "fnExactIsValidUnionFind", fn := fun _ => fun
  | [d] => { results := [.lit (.bool true)], args := [d] }
  | _ => none }
def fnExactIsValidUnionFindRow : OpenClaim := { program := "ytjglmllogbhknaa", sum := "87ad178496b4ac5be25e4f9d571ba2755f14808c14eb45acfcf5fe8fc579be40", func := "loop.example/g01919/laws.FnExactIsValidUnionFind", spec := "fnExactIsValidUnionFind", apart := false }
def FnExactIsValidUnionFindSaid : Prop := fnExactIsValidUnionFindRow.holds Try.pinned (OpenSpec.ofChange fnExactIsValidUnionFindSpec)

/-- ITS FALSE NEIGHBOUR: 'it returns false'. Refute it at one input. -/
def fnExactIsValidUnionFindWrong : ChangeSpec := { name := "fnExactIsValidUnionFind", fn := fun _ => fun
  | [d] => { results := [.lit (.bool false)], args := [d] }
  | _ => none }
def FnExactIsValidUnionFindWrongFalsely : Prop := fnExactIsValidUnionFindRow.holds Try.pinned (OpenSpec.ofChange fnExactIsValidUnionFindWrong)

/-- 'laws.FnExactEqualUnionFinds': WHATEVER THE INPUT: true; the input reads as it did. -/
def fnExactEqualUnionFindsSpec : ChangeSpec := { name := "fnExactEqualUnionFinds", fn := fun _ => fun
  | [d1, d2] => { results := [.lit (.bool true)], args := [d1, d2] }
  | _ => none }
def fnExactEqualUnionFindsRow : OpenClaim := { program := "ytjglmllogbhknaa", sum := "87ad178496b4ac5be25e4f9d571ba2755f14808c14eb45acfcf5fe8fc579be40", func := "loop.example/g01919/laws.FnExactEqualUnionFinds", spec := "fnExactEqualUnionFinds", apart := false }
def FnExactEqualUnionFindsSaid : Prop := fnExactEqualUnionFindsRow.holds Try.pinned (OpenSpec.ofChange fnExactEqualUnionFindsSpec)

/-- ITS FALSE NEIGHBOUR: 'it returns false'. Refute it at one input. -/
def fnExactEqualUnionFindsWrong : ChangeSpec := { name := "fnExactEqualUnionFinds", fn := fun _ => fun
  | [d1, d2] => { results := [.lit (.bool false)], args := [d1, d2] }
  | _ => none }
def FnExactEqualUnionFindsWrongFalsely : Prop := fnExactEqualUnionFindsRow.holds Try.pinned (OpenSpec.ofChange fnExactEqualUnionFindsWrong)

/-- 'laws.FnExactFind': WHATEVER THE INPUT: true; the input reads as it did. -/
def fnExactFindSpec : ChangeSpec := { name := "fnExactFind", fn := fun _ => fun
  | [d1, d2] => { results := [.lit (.bool true)], args := [d1, d2] }
  | _ => none }
def fnExactFindRow : OpenClaim := { program := "ytjglmllogbhknaa", sum := "87ad178496b4ac5be25e4f9d571ba2755f14808c14eb45acfcf5fe8fc579be40", func := "loop.example/g01919/laws.FnExactFind", spec := "fnExactFind", apart := false }
def FnExactFindSaid : Prop := fnExactFindRow.holds Try.pinned (OpenSpec.ofChange fnExactFindSpec)

/-- ITS FALSE NEIGHBOUR: 'it returns false'. Refute it at one input. -/
def fnExactFindWrong : ChangeSpec := { name := "fnExactFind", fn := fun _ => fun
  | [d1, d2] => { results := [.lit (.bool false)], args := [d1, d2] }
  | _ => none }
def FnExactFindWrongFalsely : Prop := fnExactFindRow.holds Try.pinned (OpenSpec.ofChange fnExactFindWrong)

/-- 'laws.FnExactPositionCount': WHATEVER THE INPUT: true; the input reads as it did. -/
def fnExactPositionCountSpec : ChangeSpec := { name := "fnExactPositionCount", fn := fun _ => fun
  | [d] => { results := [.lit (.bool true)], args := [d] }
  | _ => none }
def fnExactPositionCountRow : OpenClaim := { program := "ytjglmllogbhknaa", sum := "87ad178496b4ac5be25e4f9d571ba2755f14808c14eb45acfcf5fe8fc579be40", func := "loop.example/g01919/laws.FnExactPositionCount", spec := "fnExactPositionCount", apart := false }
def FnExactPositionCountSaid : Prop := fnExactPositionCountRow.holds Try.pinned (OpenSpec.ofChange fnExactPositionCountSpec)

/-- ITS FALSE NEIGHBOUR: 'it returns false'. Refute it at one input. -/
def fnExactPositionCountWrong : ChangeSpec := { name := "fnExactPositionCount", fn := fun _ => fun
  | [d] => { results := [.lit (.bool false)], args := [d] }
  | _ => none }
def FnExactPositionCountWrongFalsely : Prop := fnExactPositionCountRow.holds Try.pinned (OpenSpec.ofChange fnExactPositionCountWrong)

/-- 'laws.FnExactPositionIndex': WHATEVER THE INPUT: true; the input reads as it did. -/
def fnExactPositionIndexSpec : ChangeSpec := { name := "fnExactPositionIndex", fn := fun _ => fun
  | [d1, d2, d3] => { results := [.lit (.bool true)], args := [d1, d2, d3] }
  | _ => none }
def fnExactPositionIndexRow : OpenClaim := { program := "ytjglmllogbhknaa", sum := "87ad178496b4ac5be25e4f9d571ba2755f14808c14eb45acfcf5fe8fc579be40", func := "loop.example/g01919/laws.FnExactPositionIndex", spec := "fnExactPositionIndex", apart := false }
def FnExactPositionIndexSaid : Prop := fnExactPositionIndexRow.holds Try.pinned (OpenSpec.ofChange fnExactPositionIndexSpec)

/-- ITS FALSE NEIGHBOUR: 'it returns false'. Refute it at one input. -/
def fnExactPositionIndexWrong : ChangeSpec := { name := "fnExactPositionIndex", fn := fun _ => fun
  | [d1, d2, d3] => { results := [.lit (.bool false)], args := [d1, d2, d3] }
  | _ => none }
def FnExactPositionIndexWrongFalsely : Prop := fnExactPositionIndexRow.holds Try.pinned (OpenSpec.ofChange fnExactPositionIndexWrong)

/-- 'laws.FnExactInstantiate': WHATEVER THE INPUT: true; the input reads as it did. -/
def fnExactInstantiateSpec : ChangeSpec := { name := "fnExactInstantiate", fn := fun _ => fun
  | [d1, d2] => { results := [.lit (.bool true)], args := [d1, d2] }
  | _ => none }
def fnExactInstantiateRow : OpenClaim := { program := "ytjglmllogbhknaa", sum := "87ad178496b4ac5be25e4f9d571ba2755f14808c14eb45acfcf5fe8fc579be40", func := "loop.example/g01919/laws.FnExactInstantiate", spec := "fnExactInstantiate", apart := false }
def FnExactInstantiateSaid : Prop := fnExactInstantiateRow.holds Try.pinned (OpenSpec.ofChange fnExactInstantiateSpec)

/-- ITS FALSE NEIGHBOUR: 'it returns false'. Refute it at one input. -/
def fnExactInstantiateWrong : ChangeSpec := { name := "fnExactInstantiate", fn := fun _ => fun
  | [d1, d2] => { results := [.lit (.bool false)], args := [d1, d2] }
  | _ => none }
def FnExactInstantiateWrongFalsely : Prop := fnExactInstantiateRow.holds Try.pinned (OpenSpec.ofChange fnExactInstantiateWrong)

/-- 'laws.FnExactUnionSubstitution': WHATEVER THE INPUT: true; the input reads as it did. -/
def fnExactUnionSubstitutionSpec : ChangeSpec := { name := "fnExactUnionSubstitution", fn := fun _ => fun
  | [d] => { results := [.lit (.bool true)], args := [d] }
  | _ => none }
def fnExactUnionSubstitutionRow : OpenClaim := { program := "ytjglmllogbhknaa", sum := "87ad178496b4ac5be25e4f9d571ba2755f14808c14eb45acfcf5fe8fc579be40", func := "loop.example/g01919/laws.FnExactUnionSubstitution", spec := "fnExactUnionSubstitution", apart := false }
def FnExactUnionSubstitutionSaid : Prop := fnExactUnionSubstitutionRow.holds Try.pinned (OpenSpec.ofChange fnExactUnionSubstitutionSpec)

/-- ITS FALSE NEIGHBOUR: 'it returns false'. Refute it at one input. -/
def fnExactUnionSubstitutionWrong : ChangeSpec := { name := "fnExactUnionSubstitution", fn := fun _ => fun
  | [d] => { results := [.lit (.bool false)], args := [d] }
  | _ => none }
def FnExactUnionSubstitutionWrongFalsely : Prop := fnExactUnionSubstitutionRow.holds Try.pinned (OpenSpec.ofChange fnExactUnionSubstitutionWrong)

/-- 'laws.FnExactIsValidAtom': WHATEVER THE INPUT: true; the input reads as it did. -/
def fnExactIsValidAtomSpec : ChangeSpec := { name := "fnExactIsValidAtom", fn := fun _ => fun
  | [d1, d2] => { results := [.lit (.bool true)], args := [d1, d2] }
  | _ => none }
def fnExactIsValidAtomRow : OpenClaim := { program := "ytjglmllogbhknaa", sum := "87ad178496b4ac5be25e4f9d571ba2755f14808c14eb45acfcf5fe8fc579be40", func := "loop.example/g01919/laws.FnExactIsValidAtom", spec := "fnExactIsValidAtom", unfollowed := true, recurses := true, apart := false }
def FnExactIsValidAtomSaid : Prop := fnExactIsValidAtomRow.holds Try.pinned (OpenSpec.ofChange fnExactIsValidAtomSpec)

/-- ITS FALSE NEIGHBOUR: 'it returns false'. Refute it at one input. -/
def fnExactIsValidAtomWrong : ChangeSpec := { name := "fnExactIsValidAtom", fn := fun _ => fun
  | [d1, d2] => { results := [.lit (.bool false)], args := [d1, d2] }
  | _ => none }
def FnExactIsValidAtomWrongFalsely : Prop := fnExactIsValidAtomRow.holds Try.pinned (OpenSpec.ofChange fnExactIsValidAtomWrong)

/-- 'laws.FnExactEquivalenceClasses': WHATEVER THE INPUT: true; the input reads as it did. -/
def fnExactEquivalenceClassesSpec : ChangeSpec := { name := "fnExactEquivalenceClasses", fn := fun _ => fun
  | [d] => { results := [.lit (.bool true)], args := [d] }
  | _ => none }
def fnExactEquivalenceClassesRow : OpenClaim := { program := "ytjglmllogbhknaa", sum := "87ad178496b4ac5be25e4f9d571ba2755f14808c14eb45acfcf5fe8fc579be40", func := "loop.example/g01919/laws.FnExactEquivalenceClasses", spec := "fnExactEquivalenceClasses", apart := false }
def FnExactEquivalenceClassesSaid : Prop := fnExactEquivalenceClassesRow.holds Try.pinned (OpenSpec.ofChange fnExactEquivalenceClassesSpec)

/-- ITS FALSE NEIGHBOUR: 'it returns false'. Refute it at one input. -/
def fnExactEquivalenceClassesWrong : ChangeSpec := { name := "fnExactEquivalenceClasses", fn := fun _ => fun
  | [d] => { results := [.lit (.bool false)], args := [d] }
  | _ => none }
def FnExactEquivalenceClassesWrongFalsely : Prop := fnExactEquivalenceClassesRow.holds Try.pinned (OpenSpec.ofChange fnExactEquivalenceClassesWrong)

/- THE SECOND FORM. 'bulk': how many values and letters a reading holds, each counted each time it is reached (what is shared counts as often as it is met; a slice's spare places count too). A statement '..UptoSaid' is the law's where the arguments, and the package variables that the reading takes, are together of bulk at most 1048576: NARROWER than '..Said'. Prove '..Said' where nothing that the law and all that it calls make is longer than what came in: it says more and counts as full. Else prove '..UptoSaid'. A law counts once. -/
mutual
def uptoBulk {H : Type} : DataW H → Nat
  | .lit (.string bytes) => bytes.length + 1
  | .lit _ => 1
  | .nil => 1
  | .ptr d => uptoBulk d + 1
  | .slice elems spare => uptoBulkAll elems + uptoBulkAll spare + 1
  | .agg parts => uptoBulkAll parts + 1
  | .iface _ d => uptoBulk d + 1
  | .map entries => uptoBulkEntries entries + 1
  | .held _ => 1
def uptoBulkAll {H : Type} : List (DataW H) → Nat
  | [] => 0
  | d :: r => uptoBulk d + uptoBulkAll r
def uptoBulkEntries {H : Type} : List (Lit × DataW H) → Nat
  | [] => 0
  | x :: r => uptoBulkEntry x + uptoBulkEntries r
def uptoBulkEntry {H : Type} : Lit × DataW H → Nat
  | (.string bytes, d) => bytes.length + uptoBulk d + 1
  | (_, d) => uptoBulk d + 1
 end
def uptoSmall : (H : Type) → List (DataW H) → Bool := fun _ ds => decide (uptoBulkAll ds ≤ 1048576)
def OpenSpec.upto (s : _root_.Go.ChangeSpec) : _root_.Go.OpenSpec := { _root_.Go.OpenSpec.ofChange s with cond := some uptoSmall }

/-- 'laws.FnExactFormatCode', WHERE WHAT IT READS IS OF BULK AT MOST 1048576: true; the input reads as it did. -/
def fnExactFormatCodeUptoRow : OpenClaim := { program := "ytjglmllogbhknaa", sum := "87ad178496b4ac5be25e4f9d571ba2755f14808c14eb45acfcf5fe8fc579be40", func := "loop.example/g01919/laws.FnExactFormatCode", spec := "fnExactFormatCode", apart := false, narrowed := true }
def FnExactFormatCodeUptoSaid : Prop := fnExactFormatCodeUptoRow.holds Try.pinned (OpenSpec.upto fnExactFormatCodeSpec)

/-- 'laws.FnExactNewUnionFind', WHERE WHAT IT READS IS OF BULK AT MOST 1048576: true; the input reads as it did. -/
def fnExactNewUnionFindUptoRow : OpenClaim := { program := "ytjglmllogbhknaa", sum := "87ad178496b4ac5be25e4f9d571ba2755f14808c14eb45acfcf5fe8fc579be40", func := "loop.example/g01919/laws.FnExactNewUnionFind", spec := "fnExactNewUnionFind", apart := false, narrowed := true }
def FnExactNewUnionFindUptoSaid : Prop := fnExactNewUnionFindUptoRow.holds Try.pinned (OpenSpec.upto fnExactNewUnionFindSpec)

/-- 'laws.FnExactIsReachable', WHERE WHAT IT READS IS OF BULK AT MOST 1048576: true; the input reads as it did. -/
def fnExactIsReachableUptoRow : OpenClaim := { program := "ytjglmllogbhknaa", sum := "87ad178496b4ac5be25e4f9d571ba2755f14808c14eb45acfcf5fe8fc579be40", func := "loop.example/g01919/laws.FnExactIsReachable", spec := "fnExactIsReachable", apart := false, narrowed := true }
def FnExactIsReachableUptoSaid : Prop := fnExactIsReachableUptoRow.holds Try.pinned (OpenSpec.upto fnExactIsReachableSpec)

/-- 'laws.FnExactIsValidUnionFind', WHERE WHAT IT READS IS OF BULK AT MOST 1048576: true; the input reads as it did. -/
def fnExactIsValidUnionFindUptoRow : OpenClaim := { program := "ytjglmllogbhknaa", sum := "87ad178496b4ac5be25e4f9d571ba2755f14808c14eb45acfcf5fe8fc579be40", func := "loop.example/g01919/laws.FnExactIsValidUnionFind", spec := "fnExactIsValidUnionFind", apart := false, narrowed := true }
def FnExactIsValidUnionFindUptoSaid : Prop := fnExactIsValidUnionFindUptoRow.holds Try.pinned (OpenSpec.upto fnExactIsValidUnionFindSpec)

/-- 'laws.FnExactEqualUnionFinds', WHERE WHAT IT READS IS OF BULK AT MOST 1048576: true; the input reads as it did. -/
def fnExactEqualUnionFindsUptoRow : OpenClaim := { program := "ytjglmllogbhknaa", sum := "87ad178496b4ac5be25e4f9d571ba2755f14808c14eb45acfcf5fe8fc579be40", func := "loop.example/g01919/laws.FnExactEqualUnionFinds", spec := "fnExactEqualUnionFinds", apart := false, narrowed := true }
def FnExactEqualUnionFindsUptoSaid : Prop := fnExactEqualUnionFindsUptoRow.holds Try.pinned (OpenSpec.upto fnExactEqualUnionFindsSpec)

/-- 'laws.FnExactFind', WHERE WHAT IT READS IS OF BULK AT MOST 1048576: true; the input reads as it did. -/
def fnExactFindUptoRow : OpenClaim := { program := "ytjglmllogbhknaa", sum := "87ad178496b4ac5be25e4f9d571ba2755f14808c14eb45acfcf5fe8fc579be40", func := "loop.example/g01919/laws.FnExactFind", spec := "fnExactFind", apart := false, narrowed := true }
def FnExactFindUptoSaid : Prop := fnExactFindUptoRow.holds Try.pinned (OpenSpec.upto fnExactFindSpec)

/-- 'laws.FnExactPositionCount', WHERE WHAT IT READS IS OF BULK AT MOST 1048576: true; the input reads as it did. -/
def fnExactPositionCountUptoRow : OpenClaim := { program := "ytjglmllogbhknaa", sum := "87ad178496b4ac5be25e4f9d571ba2755f14808c14eb45acfcf5fe8fc579be40", func := "loop.example/g01919/laws.FnExactPositionCount", spec := "fnExactPositionCount", apart := false, narrowed := true }
def FnExactPositionCountUptoSaid : Prop := fnExactPositionCountUptoRow.holds Try.pinned (OpenSpec.upto fnExactPositionCountSpec)

/-- 'laws.FnExactPositionIndex', WHERE WHAT IT READS IS OF BULK AT MOST 1048576: true; the input reads as it did. -/
def fnExactPositionIndexUptoRow : OpenClaim := { program := "ytjglmllogbhknaa", sum := "87ad178496b4ac5be25e4f9d571ba2755f14808c14eb45acfcf5fe8fc579be40", func := "loop.example/g01919/laws.FnExactPositionIndex", spec := "fnExactPositionIndex", apart := false, narrowed := true }
def FnExactPositionIndexUptoSaid : Prop := fnExactPositionIndexUptoRow.holds Try.pinned (OpenSpec.upto fnExactPositionIndexSpec)

/-- 'laws.FnExactInstantiate', WHERE WHAT IT READS IS OF BULK AT MOST 1048576: true; the input reads as it did. -/
def fnExactInstantiateUptoRow : OpenClaim := { program := "ytjglmllogbhknaa", sum := "87ad178496b4ac5be25e4f9d571ba2755f14808c14eb45acfcf5fe8fc579be40", func := "loop.example/g01919/laws.FnExactInstantiate", spec := "fnExactInstantiate", apart := false, narrowed := true }
def FnExactInstantiateUptoSaid : Prop := fnExactInstantiateUptoRow.holds Try.pinned (OpenSpec.upto fnExactInstantiateSpec)

/-- 'laws.FnExactUnionSubstitution', WHERE WHAT IT READS IS OF BULK AT MOST 1048576: true; the input reads as it did. -/
def fnExactUnionSubstitutionUptoRow : OpenClaim := { program := "ytjglmllogbhknaa", sum := "87ad178496b4ac5be25e4f9d571ba2755f14808c14eb45acfcf5fe8fc579be40", func := "loop.example/g01919/laws.FnExactUnionSubstitution", spec := "fnExactUnionSubstitution", apart := false, narrowed := true }
def FnExactUnionSubstitutionUptoSaid : Prop := fnExactUnionSubstitutionUptoRow.holds Try.pinned (OpenSpec.upto fnExactUnionSubstitutionSpec)

/-- 'laws.FnExactIsValidAtom', WHERE WHAT IT READS IS OF BULK AT MOST 1048576: true; the input reads as it did. -/
def fnExactIsValidAtomUptoRow : OpenClaim := { program := "ytjglmllogbhknaa", sum := "87ad178496b4ac5be25e4f9d571ba2755f14808c14eb45acfcf5fe8fc579be40", func := "loop.example/g01919/laws.FnExactIsValidAtom", spec := "fnExactIsValidAtom", unfollowed := true, recurses := true, apart := false, narrowed := true }
def FnExactIsValidAtomUptoSaid : Prop := fnExactIsValidAtomUptoRow.holds Try.pinned (OpenSpec.upto fnExactIsValidAtomSpec)

/-- 'laws.FnExactEquivalenceClasses', WHERE WHAT IT READS IS OF BULK AT MOST 1048576: true; the input reads as it did. -/
def fnExactEquivalenceClassesUptoRow : OpenClaim := { program := "ytjglmllogbhknaa", sum := "87ad178496b4ac5be25e4f9d571ba2755f14808c14eb45acfcf5fe8fc579be40", func := "loop.example/g01919/laws.FnExactEquivalenceClasses", spec := "fnExactEquivalenceClasses", apart := false, narrowed := true }
def FnExactEquivalenceClassesUptoSaid : Prop := fnExactEquivalenceClassesUptoRow.holds Try.pinned (OpenSpec.upto fnExactEquivalenceClassesSpec)

end Rows
end Go.Proofs.Ytjglmllogbhknaa
