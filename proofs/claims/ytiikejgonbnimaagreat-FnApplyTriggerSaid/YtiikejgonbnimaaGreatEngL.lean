import Derived.Test.YtiikejgonbnimaaGreatEngK
set_option linter.unusedVariables false
set_option linter.unusedSimpArgs false
namespace Go.Eng
open Go Go.RowKit
section
variable {n:Int} {es:List FI}
end
end Go.Eng
