import Derived.Test.YthcggkagkihamaaGreatDoorEngI
set_option linter.unusedVariables false
set_option linter.unusedSimpArgs false
namespace Go.Eng
open Go Go.RowKit
section
variable {n:Int} {es:List DI} {q:List Bool} {j:Nat} {z:DI}
end
section
variable {rs:T9} {ds:List Y1} {g:List DI} {m:Nat} {z:DI}
end
end Go.Eng
