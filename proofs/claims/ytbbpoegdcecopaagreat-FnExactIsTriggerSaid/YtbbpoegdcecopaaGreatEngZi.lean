/- Models: lists of dependencies. -/
import Derived.Test.YtbbpoegdcecopaaGreatEngZh
set_option linter.unusedVariables false
set_option linter.unusedSimpArgs false
namespace Go.Eng
open Go Go.RowKit
abbrev Dep := Atoms × Atoms × Bool × Int × Int
def badD (rs : Rels) : Dep → Bool := fun x => !depOk rs x.1 x.2.1 x.2.2.1 x.2.2.2.1 x.2.2.2.2
def depsOk (rs : Rels) (l : List Dep) : Bool := relsOk rs && (decide (l.length ≤ 5) && !l.any (badD rs))
end Go.Eng
