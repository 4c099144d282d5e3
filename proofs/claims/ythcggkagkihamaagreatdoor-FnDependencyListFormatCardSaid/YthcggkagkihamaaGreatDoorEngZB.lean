import Derived.Test.YthcggkagkihamaaGreatDoorEngZA
set_option linter.unusedVariables false
set_option linter.unusedSimpArgs false
namespace Go.Eng
open Go Go.RowKit
def AC.wk : AC → AC
 | .t none x => .t none x
 | _ => .top
def triE (E : Nat → EE) (i p q : Nat) : Nat → EE := fun k => if k = 0 then E i else if k = 1 then E p else if k = 2 then E q else dead
def newE (E E' : Nat → EE) (i p q : Nat) : Nat → EE := fun k => if k = i then E' 0 else if k = p then E' 1 else if k = q then E' 2 else E k
section
variable {cx : Cx} {ob ob' : List (Nat × Option Ob)} {nx nx' i p q : Nat} {E E' : Nat → EE} {S S2 : Nat → Prop} {w w' : World} {P : Program} {g : FuncId} {n : Nat} {c1 c2 : List AC} {v1 v2 : Value} {e sz : Nat} {α : Type} {enc : α → Nat → T} {l' : List α}
end
section rules
variable {cx : Cx} {s : St} {dst : Option Nat} {ty : TypeId} {pos : String} {aft : Array Edge}
end rules
section
variable {cx : Cx} {s : St} {R : Ending → World → Prop}
end
end Go.Eng
