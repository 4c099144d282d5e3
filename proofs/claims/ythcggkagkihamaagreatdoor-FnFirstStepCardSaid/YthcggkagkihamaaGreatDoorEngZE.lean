import Derived.Test.YthcggkagkihamaaGreatDoorEngZD
set_option linter.unusedVariables false
set_option linter.unusedSimpArgs false
namespace Go.Eng
open Go Go.RowKit
section
variable {rs:T9} {fs:w9} {ds:List Y1} {m:Nat} {z:Y1}
end
end Go.Eng
