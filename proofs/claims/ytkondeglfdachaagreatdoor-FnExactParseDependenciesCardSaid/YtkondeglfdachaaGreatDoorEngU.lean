import Derived.Test.YtkondeglfdachaaGreatDoorEngT
set_option linter.unusedVariables false
set_option linter.unusedSimpArgs false
namespace Go.Eng
open Go Go.RowKit Go.Proofs
def cellF {α : Type} (enc : α → Nat → T) (sz : Nat) (xs : List α) (j : Nat) : T := match xs[j / sz]? with
 | some x => enc x (j % sz)
 | none => .v .nilIface
section
variable {cx : Cx} {s : St} {dst : Option Nat} {ty : TypeId} {pos : String} {aft : Array Edge} {R : Ending → World → Prop} {k : List Item} {ops : Array Oper} {rest : List Oper} {todo : List Item}
def halfE (E : Nat → EE) (i : Nat) : Nat → EE := upd E i ⟨(E i).u, fun k => (E i).F k ∧ (E i).u.ownBlock = some k, (E i).live, (E i).rd⟩
def halfS (E : Nat → EE) (S : Nat → Prop) (i : Nat) : Nat → Prop := fun k => S k ∨ ((E i).F k ∧ (E i).u.ownBlock ≠ some k)
end
end Go.Eng
