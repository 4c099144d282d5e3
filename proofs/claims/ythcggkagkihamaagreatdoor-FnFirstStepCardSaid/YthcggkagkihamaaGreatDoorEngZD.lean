import Derived.Test.YthcggkagkihamaaGreatDoorEngZC
set_option linter.unusedVariables false
set_option linter.unusedSimpArgs false
namespace Go.Eng
open Go Go.RowKit
section
variable {rs:T9} {fs:w9}
end
end Go.Eng
