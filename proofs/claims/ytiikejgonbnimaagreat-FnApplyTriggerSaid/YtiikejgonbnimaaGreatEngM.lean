import Derived.Test.YtiikejgonbnimaaGreatEngL
set_option linter.unusedVariables false
set_option linter.unusedSimpArgs false
namespace Go.Eng
open Go Go.RowKit
section
variable {n:Int} {es:List FI}
end
section
variable {rs:V9} {ds:List AN}
end
end Go.Eng
