import Derived.Test.YthcggkagkihamaaGreatEngZD
set_option linter.unusedVariables false
set_option linter.unusedSimpArgs false
namespace Go.Eng
open Go Go.RowKit
def actN (rs : Rels) (fs : Atoms) (ds : List Dep) (m : Nat) : Nat := ((ds.take m).map fun d => (actD rs fs d).length).sum
section
variable {rs : Rels} {fs : Atoms} {ds : List Dep} {m : Nat} {z : Dep}
end
end Go.Eng
