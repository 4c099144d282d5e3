import Derived.Test.YthcggkagkihamaaGreatDoorEngL
set_option linter.unusedVariables false
set_option linter.unusedSimpArgs false
namespace Go.Eng
open Go Go.RowKit
section
variable {n:Int} {es:List DI}
end
section
variable {rs:T9} {ds:List Y1}
end
end Go.Eng
