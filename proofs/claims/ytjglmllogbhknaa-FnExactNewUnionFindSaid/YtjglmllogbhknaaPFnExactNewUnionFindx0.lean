-- Written by xprint.py, which drives the kit's print. Lean checks it.
import Derived.Test.YtjglmllogbhknaaProg
import Derived.Below
import Derived.Deep.Draws
import Derived.Deep.AppendLies
import Derived.Maps.AppendAt
import Derived.OwnWalk
import Derived.Laws.BytesArg
import Derived.Laws.MakeOwn
import Derived.Laws.OwnMore
import Derived.Deep.OwnRows
import Derived.Tactics
import Derived.Lib.ConvBytes
import Derived.Laws.Slices
import Derived.WalkKit
import Derived.KernelRfl
import Derived.RowKit3
import Derived.Deep.LoopGhost
import Derived.Deep.QuietTactic
import Derived.BigQuiet
import Derived.WideLaws
import Derived.Deep.DeepCutAuto
import Derived.Deep.CutBlock
import Derived.Deep.RegionHeld3
import Derived.Laws.Rows
import Derived.Lib.AppendStr
import Derived.ArgAppend
import Derived.Laws.IdiomCopy
import Derived.OrdersHeld
import Derived.Laws.BitsLemmas
import Derived.RowKit
import Derived.Test.YtjglmllogbhknaaWWords
import Derived.Test.YtjglmllogbhknaaWLast
import Derived.Test.YtjglmllogbhknaaWTab
import Derived.Test.YtjglmllogbhknaaWFour
import Derived.Test.YtjglmllogbhknaaWQPut
import Derived.Test.YtjglmllogbhknaaWApart
import Derived.Test.YtjglmllogbhknaaWArr
import Derived.Test.YtjglmllogbhknaaWZeros
import Derived.Test.YtjglmllogbhknaaWFoot
import Derived.Test.YtjglmllogbhknaaWKept
import Derived.Test.YtjglmllogbhknaaWShare
import Derived.Test.YtjglmllogbhknaaWN
import Derived.Test.YtjglmllogbhknaaWFootNe
import Derived.Test.YtjglmllogbhknaaWAt
import Derived.Test.YtjglmllogbhknaaWEqStruct
import Derived.Test.YtjglmllogbhknaaWRepsOne
import Derived.Test.YtjglmllogbhknaaWInv
import Derived.Test.YtjglmllogbhknaaWInvWords
import Derived.Test.YtjglmllogbhknaaWGuard
import Derived.Test.YtjglmllogbhknaaWNEv
import Derived.Test.YtjglmllogbhknaaWMore
namespace Go.Proofs.Ytjglmllogbhknaa.PFnExactNewUnionFind
open Go.RowKit Go.Proofs.YtjglmllogbhknaaW.PrintWords Go.Proofs.YtjglmllogbhknaaW.PrintLast Go.Proofs.YtjglmllogbhknaaW.PrintMore
attribute [local go_sem] max2_int min2_int max_two min_two max_three min_three max_four min_four   -- for this text's walks alone
set_option linter.unusedVariables false
set_option linter.unusedSimpArgs false



def errW : Option Int → Value
  | none => .nilIface
  | some c => .iface 0 (.int .i64 c)
theorem errW_none : errW none = .nilIface := rfl
theorem errW_some (c : Int) : errW (some c) = .iface 0 (.int .i64 c) := rfl

theorem info3 : (Try.prog.info? 3).map (fun i => (i.zero, i.size, i.bytes)) = some (some (.int .i64 0), 1, 8) := by kernel_rfl
-- the values' own types

end Go.Proofs.Ytjglmllogbhknaa.PFnExactNewUnionFind
