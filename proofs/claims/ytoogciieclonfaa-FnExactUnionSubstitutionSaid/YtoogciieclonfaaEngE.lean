/- The engine: the parts Za, Zb, Zc, Zd, Ze, Zf, Zg, Zh, Zi, Zj. -/
import Derived.Test.YtoogciieclonfaaEngD
import Derived.Laws.Small
/- The engine, part Za: views of a row of the call's own; a row handed over for good. -/
set_option linter.unusedVariables false
set_option linter.unusedSimpArgs false
namespace Go.Eng
open Go Go.RowKit
section rules
variable {cx : Cx} {s : St} {k : List Item} {R : Ending → World → Prop} {dst : Option Nat} {ty : TypeId} {pos : String} {aft : Array Edge}
end rules
end Go.Eng

/- Models: sorted lists without repetitions. -/
set_option linter.unusedVariables false
set_option linter.unusedSimpArgs false
namespace Go.Eng
open Go Go.RowKit
/-! ### neighbours that are equal, once each -/
def compactI : List Int → List Int
  | [] => []
  | [x] => [x]
  | x :: y :: l => if x = y then compactI (y :: l) else x :: compactI (y :: l)
/-! ### put in its place, unless it is there -/
def putI : List Int → Int → List Int
  | [], x => [x]
  | y :: l, x => if y < x then y :: putI l x else if y = x then y :: l else x :: y :: l
/-- A list's numbers in ascending order, each once. -/
def setI (l : List Int) : List Int := l.foldl putI []
/-! ### sorted -/
def sortI (l : List Int) : List Int := l.mergeSort (fun a b => decide (a ≤ b))
end Go.Eng

/- The engine, part Zc: whole numbers converted, a view cleared. -/
set_option linter.unusedVariables false
set_option linter.unusedSimpArgs false
namespace Go.Eng
open Go Go.RowKit
section rules
variable {cx : Cx} {s : St} {dst : Option Nat} {ty : TypeId} {pos : String} {aft : Array Edge}
end rules
end Go.Eng

/- The engine, part Zd: a pinned row whose pin is forgotten. -/
set_option linter.unusedVariables false
set_option linter.unusedSimpArgs false
namespace Go.Eng
open Go Go.RowKit
end Go.Eng

/- Models: insertion sort, and neighbours that are equal taken out. -/
set_option linter.unusedVariables false
set_option linter.unusedSimpArgs false
namespace Go.Eng
open Go Go.RowKit
def srtI (l q : List Int) (m : Nat) : Prop := q.Perm l ∧ q.length = l.length ∧ ∀ (p s : Nat) (x y : Int), p < s → s < m → q[p]? = some x → q[s]? = some y → x ≤ y
def insI (l r : List Int) (j m : Nat) : Prop := r.Perm l ∧ r.length = l.length ∧ j ≤ m ∧ ∀ (p s : Nat) (x y : Int), p < s → s ≤ m → s ≠ j → r[p]? = some x → r[s]? = some y → x ≤ y
/-- Behind the k elements that are kept the list is as it was. -/
def cmpK (l c : List Int) (k j : Nat) : Prop := c.length = l.length ∧ k < j ∧ j ≤ l.length ∧ c.take k = compactI (l.take j) ∧ c.drop k = l.drop k
end Go.Eng

/- The engine, part Zf: a slice of one element written out, a slice appended, an object renamed. -/
set_option linter.unusedVariables false
set_option linter.unusedSimpArgs false
namespace Go.Eng
open Go Go.RowKit
section rules
variable {cx : Cx} {s : St} {dst : Option Nat} {ty : TypeId} {pos : String} {aft : Array Edge}
end rules
end Go.Eng

/- Models: the variables of atoms; a number put in its place. -/
set_option linter.unusedVariables false
set_option linter.unusedSimpArgs false
namespace Go.Eng
open Go Go.RowKit
def nonneg (l : List Int) : List Int := l.filter fun t => decide (0 ≤ t)
def varsL (l : List (Int × List Int)) : List Int := l.flatMap fun a => nonneg a.2
def hasI (l : List Int) (x : Int) : Bool := l.any fun y => decide (y = x)
end Go.Eng

/- Models: dependencies. -/
set_option linter.unusedVariables false
set_option linter.unusedSimpArgs false
namespace Go.Eng
open Go Go.RowKit
abbrev Rels := List (List UInt8 × Int × Bool)
abbrev Atoms := List (Int × List Int)
def badA (rs : Rels) : Int × List Int → Bool := fun x => !atomOk rs x.1 x.2
def srcA (rs : Rels) : Int × List Int → Bool := fun x => match rs[x.1.toNat]? with | some y => y.2.2 | none => false
def atomsOk (rs : Rels) (l : Atoms) (most : Int) : Bool := decide (1 ≤ (l.length : Int) ∧ (l.length : Int) ≤ most) && !l.any (badA rs)
def depOk (rs : Rels) (b h : Atoms) (e : Bool) (lv rv : Int) : Bool :=
  atomsOk rs b 2 && (if e = true then decide (h.length = 0) && (decide (lv < rv) && (hasI (setI (varsL b)) lv && hasI (setI (varsL b)) rv))
    else atomsOk rs h 2 && (decide (lv = 0) && (decide (rv = 0) && !h.any (srcA rs))))
end Go.Eng

/- Models: lists of dependencies. -/
set_option linter.unusedVariables false
set_option linter.unusedSimpArgs false
namespace Go.Eng
open Go Go.RowKit
abbrev Dep := Atoms × Atoms × Bool × Int × Int
def badD (rs : Rels) : Dep → Bool := fun x => !depOk rs x.1 x.2.1 x.2.2.1 x.2.2.2.1 x.2.2.2.2
def depsOk (rs : Rels) (l : List Dep) : Bool := relsOk rs && (decide (l.length ≤ 5) && !l.any (badD rs))
end Go.Eng

/- The engine, part Zj: a slice against nil, least and greatest of two; models of the union. -/
set_option linter.unusedVariables false
set_option linter.unusedSimpArgs false
namespace Go.Eng
open Go Go.RowKit
section rules
variable {cx : Cx} {s : St} {k : List Item} {R : Ending → World → Prop} {ops : Array Oper} {rest : List Oper} {dst : Option Nat} {ty : TypeId} {pos : String} {aft : Array Edge}
end rules
def memU (l : List Int) (v : Int) : Bool := decide (-40 ≤ v ∧ v ≤ 9) && (decide (0 ≤ v) || decide (-1 - v < l.length))
def findU (l : List Int) (v : Int) : Int := if (-40 ≤ v ∧ v ≤ -1) ∧ -1 - v < l.length ∧ ufOk l = true then l.getD (-1 - v).toNat 0 else v
def uniC (l : List Int) (a b : Int) : Int := if ufOk l = false ∨ memU l a = false ∨ memU l b = false then 2 else if findU l a = findU l b then 0 else if 0 ≤ findU l a ∧ 0 ≤ findU l b then 2 else 1
def repU (x y : Int) : Int → Int := fun v => if v = (if y < x then y else x) then (if x < y then y else x) else v
def uniL (l : List Int) (a b : Int) : List Int := if uniC l a b = 1 then l.map (repU (findU l a) (findU l b)) else l
section
variable {l : List Int} {f : Int → Int} {m : Nat} {z : Int}
end
end Go.Eng
