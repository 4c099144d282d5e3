import Derived.Test.YtiikejgonbnimaaGreatEngZN
set_option linter.unusedVariables false
set_option linter.unusedSimpArgs false
namespace Go.Eng
open Go Go.RowKit
theorem LK {rs:V9} {fs a0 a1:p9} {a2:Bool} {a3 a4:Int} (hf:fs.length≤11)(hl:a0.length≤2):(v4 rs fs a0 a1 a2 a3 a4).length≤121:=by
 unfold v4
 split
 ·exact Nat.le_trans (List.length_filter_le _ _) (KS hf hl)
 ·simp
end Go.Eng
