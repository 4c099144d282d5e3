import Derived.Test.YthcggkagkihamaaGreatEngZC
set_option linter.unusedVariables false
set_option linter.unusedSimpArgs false
namespace Go.Eng
open Go Go.RowKit
section
variable {rs : Rels} {fs : Atoms}
end
end Go.Eng
