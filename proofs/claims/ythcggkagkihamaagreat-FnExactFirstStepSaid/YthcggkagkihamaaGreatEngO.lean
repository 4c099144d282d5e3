import Derived.Test.YthcggkagkihamaaGreatEngN
import Derived.Ground.NamesProg
import Derived.Shelf.Lay
import Derived.Shelf.Strings.OnBuilder
import Derived.Shelf.Strconv.Itoa3
set_option linter.unusedVariables false
set_option linter.unusedSimpArgs false
namespace Go.Eng
open Go Go.RowKit Go.Proofs
section
variable {cx : Cx} {s : St} {dst : Option Nat} {ty : TypeId} {pos : String} {aft : Array Edge}
end
def fmtN (n : Int) : List UInt8 := if n = 0 then [48] else digs n.toNat
def fmtT (t : Int) : List UInt8 := if 0 ≤ t ∧ t ≤ 4 then (([120, 121, 122, 117, 118] : List UInt8).drop t.toNat).take 1 else if -10 ≤ t ∧ t ≤ -1 then fmtN (-1 - t) else []
end Go.Eng
