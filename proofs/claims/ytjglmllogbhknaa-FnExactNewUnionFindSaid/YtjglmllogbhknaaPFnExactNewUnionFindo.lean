-- Written by xprint.py: how the arguments of laws_FnExactNewUnionFind read, and its pure statement.
import Derived.Test.YtjglmllogbhknaaPFnExactNewUnionFindx2
import Derived.Test.YtjglmllogbhknaaXOpen
namespace Go.Proofs.Ytjglmllogbhknaa.PFnExactNewUnionFind
open Go.RowKit Go.Proofs.YtjglmllogbhknaaW.PrintWords Go.Proofs.YtjglmllogbhknaaX
set_option linter.unusedVariables false
def laws_FnExactNewUnionFind.Pure : Prop := ∀ (a0 : Int), okI a0 → ∃ k, laws_FnExactNewUnionFind.f k a0 = some true
end Go.Proofs.Ytjglmllogbhknaa.PFnExactNewUnionFind
