/- Models: reachability is transitive; ranks. -/
import Derived.Test.YtjjoopbebildfaaEngK
set_option linter.unusedVariables false
set_option linter.unusedSimpArgs false
namespace Go.Eng
open Go Go.RowKit
/-! ### sets of positions -/
def atB (q : List Bool) (x : Int) : Bool := q.getD x.toNat false
section
variable {n : Int} {es : List Edg}
/-- A set that contains with an edge's beginning its end. -/
def clos (n : Int) (es : List Edg) (T : Int → Bool) : Prop := ∀ e, e ∈ es → inN n e.1 = true → inN n e.2.1 = true → T e.1 = true → T e.2.1 = true
/-! how many -/
def cntT (q : List Bool) : Nat := (q.filter id).length
/-- From a one comes to b. -/
def rch (n : Int) (es : List Edg) (a b : Int) : Bool := atB (rnd n es (seen0 n a) n.toNat) b
/-! ### a bound of the ranks -/
def befo (n : Int) (es : List Edg) (v : Int) : List Nat := (List.range n.toNat).filter fun u => rch n es (u : Int) v && !rch n es v (u : Int)
def rho (n : Int) (es : List Edg) (v : Int) : Nat := (befo n es v).length
end
end Go.Eng
