import Derived.Test.YthcggkagkihamaaGreatEngK
set_option linter.unusedVariables false
set_option linter.unusedSimpArgs false
namespace Go.Eng
open Go Go.RowKit
def atB (q : List Bool) (x : Int) : Bool := q.getD x.toNat false
section
variable {n : Int} {es : List Edg}
def clos (n : Int) (es : List Edg) (T : Int → Bool) : Prop := ∀ e, e ∈ es → inN n e.1 = true → inN n e.2.1 = true → T e.1 = true → T e.2.1 = true
def cntT (q : List Bool) : Nat := (q.filter id).length
def rch (n : Int) (es : List Edg) (a b : Int) : Bool := atB (rnd n es (seen0 n a) n.toNat) b
def befo (n : Int) (es : List Edg) (v : Int) : List Nat := (List.range n.toNat).filter fun u => rch n es (u : Int) v && !rch n es v (u : Int)
def rho (n : Int) (es : List Edg) (v : Int) : Nat := (befo n es v).length
end
end Go.Eng
