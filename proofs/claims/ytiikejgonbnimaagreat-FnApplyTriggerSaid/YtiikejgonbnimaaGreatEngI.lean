import Derived.Test.YtiikejgonbnimaaGreatEngH
import Derived.Laws.StructEq
set_option linter.unusedVariables false
set_option linter.unusedSimpArgs false
namespace Go.Eng
open Go Go.RowKit
def sG (P:Program) (op:BinOp) (t:TypeId) (xs ys:List Value) (v:Value):Prop:=
 v.oneCell'=true∧∀(x y:Operand) (w:World),((do eqGuard op t x y (.agg xs.toArray) (.agg ys.toArray);binOp op t (.agg xs.toArray) (.agg ys.toArray)):Sem Value).run P w= .ok v w
section rules
variable {cx:Cx} {s:St} {dst:Option Nat} {ty:TypeId} {pos:String} {aft:Array Edge}
theorem iQ {E:Nat→EE} {S:Nat→Prop} {w:World} {a b c u:Value} (h:M6 E S w (.agg [.t none (.v a),.t none (.v b),.t none (.v c)]) u):u= .agg [a,b,c].toArray:=by
 obtain⟨us,rfl,hl,h⟩:=h
 match us,hl with
 | [x,y,z],_=>
  obtain⟨x',e1,q1⟩:=h 0 _ rfl
  obtain⟨y',e2,q2⟩:=h 1 _ rfl
  obtain⟨z',e3,q3⟩:=h 2 _ rfl
  cases e1;cases e2;cases e3
  rw [q1.2.1,q2.2.1,q3.2.1]
theorem yI {op:BinOp} {t yt:TypeId} {x y:Operand} {a1 a2 a3 b1 b2 b3 v:Value} (hx:s.ev x=some (.agg [.t none (.v a1),.t none (.v a2),.t none (.v a3)]))(hy:s.ev y=some (.agg [.t none (.v b1),.t none (.v b2),.t none (.v b3)]))(hv:sG cx.P op t [a1,a2,a3] [b1,b2,b3] v):
  Ps cx s (.binOp op t x y yt) (sc v):=
 fun A w E S hI hT=>by
  have h1:=iQ (J9 hT hx)
  have h2:=iQ (J9 hT hy)
  refine⟨v,fun w' hW _ _ _ _ _=>?_,D2 hv.1⟩
  simp only [execOp,h1,h2]
  rw [Sem.run_bind,hv.2]
  rfl
end rules
section
variable {rs:V9} {r i:Int} {z:List UInt8 × Int × Bool}
end
section
variable {α β:Type} {g:α→List β} {l:List α} {m:Nat} {z:α}
end
section
variable {rs:V9} {l:p9} {v:Int} {m n:Nat} {z:Int × List Int} {t:Int}
end
abbrev FI:=Int × Int × Bool
section
variable {rs:V9} {ds:List AN} {d:AN}
end
end Go.Eng
namespace Go.Eng
open Go Go.RowKit
section
variable {α β γ:Type} {g:α→List β} {h:γ→List β} {l:List α} {m p:Nat} {z:α} {A N:List β} {r:List γ}
end
end Go.Eng
namespace Go.Eng
theorem nc {b:Bool} {α:Prop} (h:b=true)(h':b=false):α:=Bool.noConfusion (h.symm.trans h')
theorem C9 {b:Bool} {α:Prop} (h:b=false)(h':b=true):α:=Bool.noConfusion (h.symm.trans h')
theorem P4 {b:Bool} (h:(!b)=true):b=false:=by cases b <;> simp_all
theorem O4 {b:Bool} (h:(!b)=false):b=true:=by cases b <;> simp_all
end Go.Eng
