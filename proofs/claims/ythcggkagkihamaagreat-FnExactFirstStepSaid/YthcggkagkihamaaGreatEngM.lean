import Derived.Test.YthcggkagkihamaaGreatEngL
set_option linter.unusedVariables false
set_option linter.unusedSimpArgs false
namespace Go.Eng
open Go Go.RowKit
def atI (q : List Int) (x : Int) : Int := q.getD x.toNat 0
def spI (e : Edg) : Int := if e.2.2 = true then 1 else 0
def relE (q : List Int) (e : Edg) : List Int := q.set e.2.1.toNat (max (atI q e.2.1) (atI q e.1 + spI e))
def relK (es : List Edg) (q : List Int) : Nat → List Int
 | 0 => q
 | k + 1 => es.foldl relE (relK es q k)
def zerosI (n : Int) : List Int := List.replicate n.toNat 0
section
variable {n : Int} {es : List Edg}
def edIn (n : Int) (es : List Edg) : Prop := ∀ e, e ∈ es → inN n e.1 = true ∧ inN n e.2.1 = true
def okF (es : List Edg) (f : Int → Int) : Prop := (∀ x y : Int, x.toNat = y.toNat → f x = f y) ∧ (∀ x, 0 ≤ f x) ∧ ∀ e, e ∈ es → f e.1 + spI e ≤ f e.2.1
def leF (q : List Int) (f : Int → Int) : Prop := ∀ x, atI q x ≤ f x
def sumI (q : List Int) : Int := q.sum
def stil (es : List Edg) (q : List Int) : Prop := ∀ e, e ∈ es → atI q e.1 + spI e ≤ atI q e.2.1
def rankL (n : Int) (es : List Edg) : List Int := relK es (zerosI n) (n.toNat * n.toNat)
def acyc (n : Int) (es : List Edg) : Prop := ∀ e, e ∈ es → e.2.2 = true → rch n es e.2.1 e.1 = false
end
section
variable {rs : Rels} {ds : List Dep}
end
end Go.Eng
