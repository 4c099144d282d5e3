import Derived.Test.YtiikejgonbnimaaGreatEngO
set_option linter.unusedVariables false
set_option linter.unusedSimpArgs false
namespace Go.Eng
open Go Go.RowKit Go.Proofs
section
variable {rs:V9} {a0 a1:p9} {a2:Bool} {a3 a4:Int}
end
section
variable {rs:V9} {p q i:Int} {m:Nat} {z:List UInt8 × Int × Bool}
end
section
variable {rs:V9} {ds:List AN} {m:Nat}
end
end Go.Eng
