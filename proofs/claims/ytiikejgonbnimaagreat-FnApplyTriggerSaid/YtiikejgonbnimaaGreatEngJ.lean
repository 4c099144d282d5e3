import Derived.Test.YtiikejgonbnimaaGreatEngI
set_option linter.unusedVariables false
set_option linter.unusedSimpArgs false
namespace Go.Eng
open Go Go.RowKit
section
variable {n:Int} {es:List EI} {q:List Bool} {j:Nat} {z:EI}
end
section
variable {rs:V9} {ds:List dM} {g:List EI} {m:Nat} {z:EI}
end
end Go.Eng
