import Derived.Test.YtiikejgonbnimaaGreatEngL
set_option linter.unusedVariables false
set_option linter.unusedSimpArgs false
namespace Go.Eng
open Go Go.RowKit
section
variable {n:Int} {es:List EI}
end
section
variable {rs:V9} {ds:List dM}
end
end Go.Eng
