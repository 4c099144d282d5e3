import Derived.Test.YtiikejgonbnimaaGreatEngF
import Derived.Laws.BytesArg
set_option linter.unusedVariables false
set_option linter.unusedSimpArgs false
namespace Go.Eng
open Go Go.RowKit
section rules
variable {cx:Cx} {s:St} {dst:Option Nat} {ty:TypeId} {pos:String} {aft:Array Edge}
def uG (op:BinOp) (k:IntKind) (a b:Int):Option Value:=
 match op with
 | .shl=>if b < 0 then none else some (.int k (k.wrap (a * 2 ^(min b.toNat k.bits))))
 | .shr=>if b < 0 then none else some (.int k (a.fdiv (2 ^(min b.toNat k.bits))))
 | _=>none
theorem sN {P:Program} {op:BinOp} {k k':IntKind} {a b:Int} {v:Value} (h:uG op k a b=some v)(t:TypeId)(x y:Operand)(w:World):(do eqGuard op t x y (.int k a) (.int k' b);binOp op t (.int k a) (.int k' b):Sem Value).run P w= .ok v w∧v.oneCell'=true:=by
 cases op <;> simp only [uG] at h <;> first
  | (cases h;done)
  | (split at h <;> first | (cases h;done) | (cases h;constructor <;> simp_all [eqGuard,binOp,Op.shift,Value.oneCell'] <;>(intro hh;omega)))
theorem lG {op:BinOp} {t yt:TypeId} {x y:Operand} {kk kk':IntKind} {a b:Int} {v:Value} (hx:s.ev x=some (sc (.int kk a)))(hy:s.ev y=some (sc (.int kk' b)))(hv:uG op kk a b=some v):
  Ps cx s (.binOp op t x y yt) ((sc v)):=
 fun A w E S hI hT=>by
  have h1:=Z8 (J9 hT hx)
  have h2:=Z8 (J9 hT hy)
  have h3:=fun w'=>(sN (P:=cx.P) (k':=kk') hv t x y w').1
  have h4:=(sN (P:=cx.P) (k':=kk') hv t x y w).2
  refine⟨v,fun w' hW _ _ _ _ _=>?_,D2 h4⟩
  simp only [execOp,h1,h2]
  rw [Sem.run_bind,h3]
  rfl
def f6:Int→Nat→T:=fun n _=> .v (.int .u8 n)
end rules
end Go.Eng

set_option linter.unusedVariables false
set_option linter.unusedSimpArgs false
namespace Go.Eng
open Go Go.RowKit
section rules
variable {cx:Cx} {s:St} {R:Ending→World→Prop} {todo:List Item}
end rules
theorem gL {fs l:p9} {m:Nat} {y:List Int} (h:y∈Y3 ((v8 fs l l6).take m)):y.length=5:=dZ fs l l6 y (List.mem_of_mem_take (WR _ _ h))
theorem pK {fs l:p9} {m:Nat} (hf:fs.length≤30)(hl:l.length≤3):(Y3 ((v8 fs l l6).take m)).length≤27000:=by
 have h1:=GU ((v8 fs l l6).take m)
 have h2:=Y2 hf hl l6
 rw [List.length_take] at h1
 omega
theorem WN {q:List (List Int)} {x:List Int} {k:Nat} (h:iY (q.take k) x=true):true=iY (q.take (k + 1)) x:=by
 unfold iY at h ⊢
 rw [List.any_eq_true] at h
 obtain⟨y,h1,h2⟩:=h
 refine(List.any_eq_true.2 ⟨y,?_,h2⟩).symm
 rw [List.take_add_one]
 exact List.mem_append_left _ h1
theorem jM {q:List (List Int)} {x:List Int}:iY (q.take 0) x=false:=by rw [List.take_zero];rfl
theorem QK {q:List (List Int)} {y x:List Int} {k n:Nat} (h:iY (q.take k) x=false)(hy:q[n]? =some y)(e:n=k):decide (T6 y x=0)=iY (q.take (k + 1)) x:=by
 rw [XN hy e,h,Bool.false_or]
 exact decide_eq_decide.2 (eX _ _)
theorem UL {rs:V9} {fs l:p9} (h:xX rs fs l=false):[]=V6 rs fs l:=by unfold V6;rw [h];rfl
theorem BN {rs:V9} {fs l:p9} {m:Nat} (h:xX rs fs l=true)(hm:(v8 fs l l6).length≤m):Y3 ((v8 fs l l6).take m)=V6 rs fs l:=by unfold V6;rw [if_pos h,List.take_of_length_le hm]
theorem gS {p:List Int→Bool} {L:List (List Int)} {m n:Nat} {z:List Int} (hz:L[n]? =some z)(e:n=m):(L.take (m + 1)).filter p=if p z=true then(L.take m).filter p++[z] else(L.take m).filter p:=by
 subst e
 rw [List.take_add_one,hz,List.filter_append]
 show _++[z].filter p=_
 cases h:p z <;> simp [List.filter,h]
theorem bI {rs:V9} {fs a0 a1:p9} {a2:Bool} {a3 a4:Int} (h:D6 rs a0 a1 a2 a3 a4=false):[]=v4 rs fs a0 a1 a2 a3 a4:=by unfold v4;rw [h];rfl
theorem QL {rs:V9} {fs a0 a1:p9} {a2:Bool} {a3 a4:Int} {m:Nat} (h:D6 rs a0 a1 a2 a3 a4=true)(hm:(V6 rs fs a0).length≤m):((V6 rs fs a0).take m).filter (R8 rs fs a0 a1 a2 a3 a4)=v4 rs fs a0 a1 a2 a3 a4:=by unfold v4;rw [if_pos h,List.take_of_length_le hm]
theorem QN {p:List Int→Bool} {L:List (List Int)} {m:Nat} (h:L.length≤27000):((L.take m).filter p).length≤27000:=by
 have:=List.length_filter_le p (L.take m)
 rw [List.length_take] at this
 omega
theorem FS {rs:V9} {fs a0 a1:p9} {a2:Bool} {a3 a4:Int} {r:List Int} (h:r∈v4 rs fs a0 a1 a2 a3 a4):r∈V6 rs fs a0∧r.length=5:=by
 unfold v4 at h
 split at h
 ·have:=(List.mem_filter.1 h).1
  exact⟨this,NX this⟩
 ·cases h
end Go.Eng

set_option linter.unusedVariables false
set_option linter.unusedSimpArgs false
namespace Go.Eng
open Go Go.RowKit
section rules
variable {cx:Cx} {s:St} {dst:Option Nat} {ty:TypeId} {pos:String} {aft:Array Edge} {R:Ending→World→Prop} {k:List Item} {ops:Array Oper} {rest:List Oper}
end rules
theorem KL {p:List Int→Bool} {L:List (List Int)} {m n:Nat} {z:List Int} (hz:L[n]? =some z)(e:n=m)(h:p z=true):(L.take m).filter p++[z]=(L.take (m + 1)).filter p:=by rw [gS hz e,if_pos h]
theorem LN {p:List Int→Bool} {L:List (List Int)} {m n:Nat} {z:List Int} (hz:L[n]? =some z)(e:n=m)(h:p z=false):(L.take m).filter p=(L.take (m + 1)).filter p:=by rw [gS hz e,h];rfl
section
variable {rs:V9} {fs:p9} {ds:List AN} {m n:Nat} {z:AN}
end
theorem qL {q n:Nat} (h:0 < n)(hq:q < 4611686018427387904):KV .quo .i64 (q:Int) (n:Int)=some (.int .i64 ((q / n:Nat):Int)):=by
 simp only [KV]
 have hle:=Nat.div_le_self q n
 rw [if_neg (by omega),← Int.ofNat_tdiv]
 generalize q / n=r at *
 rw [s8 (by omega) (by omega)]
end Go.Eng

set_option linter.unusedVariables false
set_option linter.unusedSimpArgs false
namespace Go.Eng
open Go Go.RowKit
theorem HJ {q:Nat} (n:Nat) {b:Int} (hb:b=(n:Int))(h:0 < n)(hq:q < 4611686018427387904):KV .quo .i64 (q:Int) b=some (.int .i64 ((q / n:Nat):Int)):=by
 subst hb
 exact qL h hq
end Go.Eng
namespace Go.Eng
open Go Go.RowKit
end Go.Eng
