import Derived.Test.YtkondeglfdachaaGreatEngR
set_option linter.unusedVariables false
set_option linter.unusedSimpArgs false
namespace Go.Eng
open Go Go.RowKit Go.Proofs
def AC.mv (i j : Nat) : AC → AC
 | .own k => cond (Nat.beq k j) (.own i) (cond (Nat.beq k i) .top (.own k))
 | .t (some k) x => cond (Nat.beq k j) (.t (some i) x) (cond (Nat.beq k i) .top (.t (some k) x))
 | a => cond (a.names i || a.names j) .top a
def mvE (E : Nat → EE) (i j : Nat) : Nat → EE := fun k => if k = i then E j else if k = j then dead else E k
section
variable {cx : Cx} {s : St} {R : Ending → World → Prop} {todo : List Item}
end
section
variable {cx : Cx} {s : St} {R : Ending → World → Prop} {k : List Item} {ops : Array Oper} {rest : List Oper} {todo : List Item}
end
def fieldTy (P : Program) (t : TypeId) (f : Nat) : Option (TypeId × Nat) := match P.underlying t with | some (.struct fs) => (fs[f]?).map fun fl => (fl.type, fl.offset) | _ => none
section
variable {cx : Cx} {s : St} {dst : Option Nat} {ty : TypeId} {pos : String} {aft : Array Edge}
end
end Go.Eng
