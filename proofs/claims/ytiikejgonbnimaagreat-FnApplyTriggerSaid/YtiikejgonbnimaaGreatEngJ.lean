import Derived.Test.YtiikejgonbnimaaGreatEngI
set_option linter.unusedVariables false
set_option linter.unusedSimpArgs false
namespace Go.Eng
open Go Go.RowKit
section
variable {n:Int} {es:List FI} {q:List Bool} {j:Nat} {z:FI}
end
section
variable {rs:V9} {ds:List AN} {g:List FI} {m:Nat} {z:FI}
end
end Go.Eng
