import Derived.Test.YtiikejgonbnimaaGreatEngM
set_option linter.unusedVariables false
set_option linter.unusedSimpArgs false
namespace Go.Eng
open Go Go.RowKit
section
variable {n:Int} {es:List FI} {q:List Int} {z:FI} {j k:Nat} {a b:Int}
end
end Go.Eng
