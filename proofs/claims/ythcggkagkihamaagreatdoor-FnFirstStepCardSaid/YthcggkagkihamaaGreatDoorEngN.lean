import Derived.Test.YthcggkagkihamaaGreatDoorEngM
set_option linter.unusedVariables false
set_option linter.unusedSimpArgs false
namespace Go.Eng
open Go Go.RowKit
section
variable {n:Int} {es:List DI} {q:List Int} {z:DI} {j k:Nat} {a b:Int}
end
end Go.Eng
