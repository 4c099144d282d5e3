import Derived.Test.YtkondeglfdachaaGreatDoorEngJ
set_option linter.unusedVariables false
set_option linter.unusedSimpArgs false
namespace Go.Eng
open Go Go.RowKit
section
variable {P : Program} {ops : Array Oper} {Q : Exit → Act → World → Prop} {md : Region.Mode} {X : Nat → Bool}
def freeP (md : Region.Mode) (ops : Array Oper) (listed : Array Bool) (i : Nat) : Bool := freeX md ops (fun _ => true) listed i
end
def Pw (cx : Cx) (s : St) (op : Go.Op) (v : AV) : Prop :=
 ∀ (a : Act) (w : World) (E : Nat → EE) (S : Nat → Prop), Inv cx s.ob s.nx E S w → denT E S w s.tm a.tmps → ∃ u, (∀ (w' : World) (dst : Option Nat) (ty : TypeId) (pos : String) (aft : Array Edge) (gd : Option (Nat × Bool)), (execOp a.eval ⟨dst, op, ty, pos, aft, gd⟩).run cx.P w' = .ok (.value u) w') ∧ denV E S w v u
section rules
variable {cx : Cx} {s : St} {k : List Item} {R : Ending → World → Prop} {ops : Array Oper} {X : Nat → Bool} {fuel : Nat} {listed : Array Bool}
end rules
end Go.Eng
namespace Go.Eng
end Go.Eng
