import Derived.Test.YtiikejgonbnimaaGreatEngZD
set_option linter.unusedVariables false
set_option linter.unusedSimpArgs false
namespace Go.Eng
open Go Go.RowKit
section
variable {rs:V9} {fs:p9} {ds:List AN} {m:Nat} {z:AN}
end
end Go.Eng
