import Derived.Test.YthcggkagkihamaaGreatEngI
set_option linter.unusedVariables false
set_option linter.unusedSimpArgs false
namespace Go.Eng
open Go Go.RowKit
def cntP (rs : Rels) : Int := if relsOk rs = true then sumA rs else 0
def inN (n x : Int) : Bool := decide (0 ≤ x ∧ x ≤ n - 1)
def stepE (n : Int) (q : List Bool) (e : Edg) : List Bool := if inN n e.1 = true ∧ inN n e.2.1 = true ∧ q.getD e.1.toNat false = true then q.set e.2.1.toNat true else q
def rnd (n : Int) (es : List Edg) (q : List Bool) : Nat → List Bool
 | 0 => q
 | k + 1 => es.foldl (stepE n) (rnd n es q k)
def seen0 (n a : Int) : List Bool := (List.replicate n.toNat false).set a.toNat true
def reachB (n : Int) (es : List Edg) (a b : Int) : Bool := decide (0 ≤ n ∧ n ≤ 30) && (inN n a && (inN n b && (rnd n es (seen0 n a) n.toNat).getD b.toNat false))
section
variable {n : Int} {es : List Edg} {q : List Bool} {j : Nat} {z : Edg}
end
def spcP (rs : Rels) (g : List Edg) (e : Edg) : Bool := e.2.2 && reachB (cntP rs) g e.2.1 e.1
def spcF (rs : Rels) (ds : List Dep) : Bool := (graphL rs ds).any (spcP rs (graphL rs ds))
def spcE (rs : Rels) (ds : List Dep) : Edg := ((graphL rs ds).find? (spcP rs (graphL rs ds))).getD (0, 0, false)
section
variable {rs : Rels} {ds : List Dep} {g : List Edg} {m : Nat} {z : Edg}
end
def markE : Int → Edg → Edg := fun k _ => (k, k + 1, decide ((k + 2).tmod 3 = 0))
def markES : Int → List Edg → List Edg := mkL markE ct3
end Go.Eng
