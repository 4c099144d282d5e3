import Derived.Test.YthcggkagkihamaaGreatEngM
set_option linter.unusedVariables false
set_option linter.unusedSimpArgs false
namespace Go.Eng
open Go Go.RowKit
abbrev waB (rs : Rels) (ds : List Dep) : Bool := !(spcF rs ds) && depsOk rs ds
def rksL (rs : Rels) (ds : List Dep) : List Int := if waB rs ds = true then rankL (cntP rs) (graphL rs ds) else []
def rkP (rs : Rels) (ds : List Dep) (p : Int) : Int := if 0 ≤ p ∧ p ≤ (rksL rs ds).length - 1 then (rksL rs ds).getD p.toNat 0 else -1
section
variable {n : Int} {es : List Edg} {q : List Int} {z : Edg} {j k : Nat} {a b : Int}
def rkI (n : Int) (es : List Edg) (q : List Int) : Prop := q.length = n.toNat ∧ (∀ x, 0 ≤ atI q x) ∧ ∀ f, okF es f → leF q f
def rkM (n : Int) (q : List Int) (c : Bool) : Nat := 2 * (n.toNat * n.toNat) - 2 * (sumI q).toNat + (if c = true then 1 else 0)
end
def sqN (rs : Rels) : Nat := (cntP rs).toNat * (cntP rs).toNat
end Go.Eng
