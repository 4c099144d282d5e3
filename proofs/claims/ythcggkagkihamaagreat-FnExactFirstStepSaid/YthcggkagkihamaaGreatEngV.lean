import Derived.Test.YthcggkagkihamaaGreatEngU
set_option linter.unusedVariables false
set_option linter.unusedSimpArgs false
namespace Go.Eng
open Go Go.RowKit Go.Proofs
def encH {α : Type} (enc : α → Nat → T) : α × Option (Nat × Value) → Nat → T
 | (x, some (o, v)), j => if j = o then .v v else enc x j
 | (x, none), j => enc x j
def holeL {α : Type} (xs : List α) (e : Nat) (x : α) (o : Nat) (v : Value) : List (α × Option (Nat × Value)) := (xs.map fun y => (y, none)).set e (x, some (o, v))
section
variable {α : Type} {xs : List α} {e o : Nat} {x : α} {v : Value}
end
section
variable {cx : Cx} {s : St} {dst : Option Nat} {ty : TypeId} {pos : String} {aft : Array Edge} {R : Ending → World → Prop} {todo : List Item}
end
end Go.Eng
