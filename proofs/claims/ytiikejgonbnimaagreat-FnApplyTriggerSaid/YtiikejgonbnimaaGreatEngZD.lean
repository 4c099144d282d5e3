import Derived.Test.YtiikejgonbnimaaGreatEngZC
set_option linter.unusedVariables false
set_option linter.unusedSimpArgs false
namespace Go.Eng
open Go Go.RowKit
section
variable {rs:V9} {fs:p9}
end
end Go.Eng
