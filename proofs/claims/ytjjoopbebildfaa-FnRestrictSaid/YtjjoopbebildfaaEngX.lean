/- Plain laws: positions, reachability. -/
import Derived.Test.YtjjoopbebildfaaEngW
set_option linter.unusedVariables false
set_option linter.unusedSimpArgs false
namespace Go.Eng
open Go Go.RowKit
/-! ### weak acyclicity -/
end Go.Eng
