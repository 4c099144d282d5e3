import Derived.Test.YthcggkagkihamaaGreatDoorEngK
set_option linter.unusedVariables false
set_option linter.unusedSimpArgs false
namespace Go.Eng
open Go Go.RowKit
section
variable {n:Int} {es:List DI}
end
end Go.Eng
