/-
  No cell of these rows narrows 'for every input' (looked for: loops, veiled, ifaces, maps, wideKeys, modest, calm, conditions, laid).
  DERIVED. THE GIVEN ROWS OF THIS SEAT. 4 by the template 'for every input the law returns true; each argument reads behind the call as it read before'; 0 by the template 'total and deterministic' (their statements: YtjjoopbebildfaaGreatTotals.lean).
  GIVEN WITH THE SEED: the statements are not yours to turn. If you find one false, say at which input.
  Laid BY PROGRAM, IN A SANDBOX (cutbox-rows.mjs): the forced cells as the released guide's own fill.sh prints them over the translation 8ecebd70e9dd632c… (all of the seat's roots in one cut). By AI agents, Wed Nov 11 2026. No macro, syntax, notation, axiom, sorry.
-/
import Derived.Test.YtjjoopbebildfaaGreatChecked
import GoSem.Claim
import GoSem.ClaimJoined
import GoSem.ClaimMapViews
import Derived.JoinedTies
import Derived.KernelRfl
namespace Go.Proofs.YtjjoopbebildfaaGreat
/- THE CELL 'sum', in the pinned program and in every row, IS THE sha256 OF THE DUMP (.gsa) THAT YtjjoopbebildfaaGreatProg.lean LOADS. Nothing in Lean hashes anything: it is a label: what it is worth is what the hold of that sum in a sandbox is worth. -/
noncomputable def Tryz.pinned : Pinned := { name := "ytjjoopbebildfaagreat", sum := "8ecebd70e9dd632c731dfb0a3917f4262bfa361faab50a35ad6400da050b08e4", checked := Tryz.checked }
namespace Rows
def none {H : Type} : Left H := { results := [], args := [] }

/-- 'laws.FnMatches': WHATEVER THE INPUT: true; the input reads as it did. -/
def fnMatchesSpec : ChangeSpec := { name := "fnMatches", fn := fun _ => fun
  | [d] => { results := [.lit (.bool true)], args := [d] }
  | _ => none }
def fnMatchesRow : OpenClaim := { program := "ytjjoopbebildfaagreat", sum := "8ecebd70e9dd632c731dfb0a3917f4262bfa361faab50a35ad6400da050b08e4", func := "loop.example/g01919/laws.FnMatches", spec := "fnMatches", unfollowed := true, recurses := true, apart := false }
def FnMatchesSaid : Prop := fnMatchesRow.holds Tryz.pinned (OpenSpec.ofChange fnMatchesSpec)

/-- ITS FALSE NEIGHBOUR: 'it returns false'. Refute it at one input. -/
def fnMatchesWrong : ChangeSpec := { name := "fnMatches", fn := fun _ => fun
  | [d] => { results := [.lit (.bool false)], args := [d] }
  | _ => none }
def FnMatchesWrongFalsely : Prop := fnMatchesRow.holds Tryz.pinned (OpenSpec.ofChange fnMatchesWrong)

/-- 'laws.FnTriggers': WHATEVER THE INPUT: true; the input reads as it did. -/
def fnTriggersSpec : ChangeSpec := { name := "fnTriggers", fn := fun _ => fun
  | [d] => { results := [.lit (.bool true)], args := [d] }
  | _ => none }
def fnTriggersRow : OpenClaim := { program := "ytjjoopbebildfaagreat", sum := "8ecebd70e9dd632c731dfb0a3917f4262bfa361faab50a35ad6400da050b08e4", func := "loop.example/g01919/laws.FnTriggers", spec := "fnTriggers", unfollowed := true, recurses := true, apart := false }
def FnTriggersSaid : Prop := fnTriggersRow.holds Tryz.pinned (OpenSpec.ofChange fnTriggersSpec)

/-- ITS FALSE NEIGHBOUR: 'it returns false'. Refute it at one input. -/
def fnTriggersWrong : ChangeSpec := { name := "fnTriggers", fn := fun _ => fun
  | [d] => { results := [.lit (.bool false)], args := [d] }
  | _ => none }
def FnTriggersWrongFalsely : Prop := fnTriggersRow.holds Tryz.pinned (OpenSpec.ofChange fnTriggersWrong)

/-- 'laws.FnSatisfaction': WHATEVER THE INPUT: true; the input reads as it did. -/
def fnSatisfactionSpec : ChangeSpec := { name := "fnSatisfaction", fn := fun _ => fun
  | [d] => { results := [.lit (.bool true)], args := [d] }
  | _ => none }
def fnSatisfactionRow : OpenClaim := { program := "ytjjoopbebildfaagreat", sum := "8ecebd70e9dd632c731dfb0a3917f4262bfa361faab50a35ad6400da050b08e4", func := "loop.example/g01919/laws.FnSatisfaction", spec := "fnSatisfaction", unfollowed := true, recurses := true, apart := false }
def FnSatisfactionSaid : Prop := fnSatisfactionRow.holds Tryz.pinned (OpenSpec.ofChange fnSatisfactionSpec)

/-- ITS FALSE NEIGHBOUR: 'it returns false'. Refute it at one input. -/
def fnSatisfactionWrong : ChangeSpec := { name := "fnSatisfaction", fn := fun _ => fun
  | [d] => { results := [.lit (.bool false)], args := [d] }
  | _ => none }
def FnSatisfactionWrongFalsely : Prop := fnSatisfactionRow.holds Tryz.pinned (OpenSpec.ofChange fnSatisfactionWrong)

/-- 'laws.FnApplyTrigger': WHATEVER THE INPUT: true; the input reads as it did. -/
def fnApplyTriggerSpec : ChangeSpec := { name := "fnApplyTrigger", fn := fun _ => fun
  | [d] => { results := [.lit (.bool true)], args := [d] }
  | _ => none }
def fnApplyTriggerRow : OpenClaim := { program := "ytjjoopbebildfaagreat", sum := "8ecebd70e9dd632c731dfb0a3917f4262bfa361faab50a35ad6400da050b08e4", func := "loop.example/g01919/laws.FnApplyTrigger", spec := "fnApplyTrigger", inPlace := ["maps.clone"], unfollowed := true, recurses := true, apart := false }
def FnApplyTriggerSaid : Prop := fnApplyTriggerRow.holds Tryz.pinned (OpenSpec.ofChange fnApplyTriggerSpec)

/-- ITS FALSE NEIGHBOUR: 'it returns false'. Refute it at one input. -/
def fnApplyTriggerWrong : ChangeSpec := { name := "fnApplyTrigger", fn := fun _ => fun
  | [d] => { results := [.lit (.bool false)], args := [d] }
  | _ => none }
def FnApplyTriggerWrongFalsely : Prop := fnApplyTriggerRow.holds Tryz.pinned (OpenSpec.ofChange fnApplyTriggerWrong)

/- THE SECOND FORM. 'bulk': how many values and letters a reading holds, each counted each time it is reached (what is shared counts as often as it is met; a slice's spare places count too). A statement '..UptoSaid' is the law's where the arguments, and the package variables that the reading takes, are together of bulk at most 1048576: NARROWER than '..Said'. Prove '..Said' where nothing that the law and all that it calls make is longer than what came in: it says more and counts as full. Else prove '..UptoSaid'. A law counts once. -/
mutual
def uptoBulk {H : Type} : DataW H → Nat
  | .lit (.string bytes) => bytes.length + 1
  | .lit _ => 1
  | .nil => 1
  | .ptr d => uptoBulk d + 1
  | .slice elems spare => uptoBulkAll elems + uptoBulkAll spare + 1
  | .agg parts => uptoBulkAll parts + 1
  | .iface _ d => uptoBulk d + 1
  | .map entries => uptoBulkEntries entries + 1
  | .held _ => 1
def uptoBulkAll {H : Type} : List (DataW H) → Nat
  | [] => 0
  | d :: r => uptoBulk d + uptoBulkAll r
def uptoBulkEntries {H : Type} : List (Lit × DataW H) → Nat
  | [] => 0
  | x :: r => uptoBulkEntry x + uptoBulkEntries r
def uptoBulkEntry {H : Type} : Lit × DataW H → Nat
  | (.string bytes, d) => bytes.length + uptoBulk d + 1
  | (_, d) => uptoBulk d + 1
 end
def uptoSmall : (H : Type) → List (DataW H) → Bool := fun _ ds => decide (uptoBulkAll ds ≤ 1048576)
def OpenSpec.upto (s : _root_.Go.ChangeSpec) : _root_.Go.OpenSpec := { _root_.Go.OpenSpec.ofChange s with cond := some uptoSmall }

/-- 'laws.FnMatches', WHERE WHAT IT READS IS OF BULK AT MOST 1048576: true; the input reads as it did. -/
def fnMatchesUptoRow : OpenClaim := { program := "ytjjoopbebildfaagreat", sum := "8ecebd70e9dd632c731dfb0a3917f4262bfa361faab50a35ad6400da050b08e4", func := "loop.example/g01919/laws.FnMatches", spec := "fnMatches", unfollowed := true, recurses := true, apart := false, narrowed := true }
def FnMatchesUptoSaid : Prop := fnMatchesUptoRow.holds Tryz.pinned (OpenSpec.upto fnMatchesSpec)

/-- 'laws.FnTriggers', WHERE WHAT IT READS IS OF BULK AT MOST 1048576: true; the input reads as it did. -/
def fnTriggersUptoRow : OpenClaim := { program := "ytjjoopbebildfaagreat", sum := "8ecebd70e9dd632c731dfb0a3917f4262bfa361faab50a35ad6400da050b08e4", func := "loop.example/g01919/laws.FnTriggers", spec := "fnTriggers", unfollowed := true, recurses := true, apart := false, narrowed := true }
def FnTriggersUptoSaid : Prop := fnTriggersUptoRow.holds Tryz.pinned (OpenSpec.upto fnTriggersSpec)

/-- 'laws.FnSatisfaction', WHERE WHAT IT READS IS OF BULK AT MOST 1048576: true; the input reads as it did. -/
def fnSatisfactionUptoRow : OpenClaim := { program := "ytjjoopbebildfaagreat", sum := "8ecebd70e9dd632c731dfb0a3917f4262bfa361faab50a35ad6400da050b08e4", func := "loop.example/g01919/laws.FnSatisfaction", spec := "fnSatisfaction", unfollowed := true, recurses := true, apart := false, narrowed := true }
def FnSatisfactionUptoSaid : Prop := fnSatisfactionUptoRow.holds Tryz.pinned (OpenSpec.upto fnSatisfactionSpec)

/-- 'laws.FnApplyTrigger', WHERE WHAT IT READS IS OF BULK AT MOST 1048576: true; the input reads as it did. -/
def fnApplyTriggerUptoRow : OpenClaim := { program := "ytjjoopbebildfaagreat", sum := "8ecebd70e9dd632c731dfb0a3917f4262bfa361faab50a35ad6400da050b08e4", func := "loop.example/g01919/laws.FnApplyTrigger", spec := "fnApplyTrigger", inPlace := ["maps.clone"], unfollowed := true, recurses := true, apart := false, narrowed := true }
def FnApplyTriggerUptoSaid : Prop := fnApplyTriggerUptoRow.holds Tryz.pinned (OpenSpec.upto fnApplyTriggerSpec)

end Rows
end Go.Proofs.YtjjoopbebildfaaGreat
