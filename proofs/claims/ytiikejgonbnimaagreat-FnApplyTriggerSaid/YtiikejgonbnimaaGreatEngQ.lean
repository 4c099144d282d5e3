import Derived.Test.YtiikejgonbnimaaGreatEngP
import Derived.Lib.AppendIntMem
set_option linter.unusedVariables false
set_option linter.unusedSimpArgs false
namespace Go.Eng
open Go Go.RowKit Go.Proofs
def BG (X:World→Prop) (P:Program) (f:FuncId) (args:List AV) (ob:List (Nat × Option Ob)) (nx:Nat) (res:AV):Prop:=
 ∀(n:Nat) (w:World) (S:Nat→Prop) (vs:List Value),X w→(∀k,S k→k < w.heap.size)→F2 (fun _=>A5) S w args vs→
  Calls P f vs.toArray w fun e w'=>∃u E' S',e= .returned u∧G6 ⟨P,f,n,w,S,fun _=>False⟩ ob nx E' S' w'∧M6 E' S' w' res u
section
variable {cx:Cx} {s:St} {dst:Option Nat} {ty:TypeId} {pos:String} {aft:Array Edge}
end
section
variable {v:Int} {b:List Int} {m:Nat} {z:Int}
end
end Go.Eng
